/-
  WALKS, 4: CopyBytes, cut, EqBytes, joins, works.
-/
import Derived.Test.YtahooodkklgeiaaDoorW3
import Derived.Test.YtahooodkklgeiaaDoorOwn
import Derived.Deep.QuietTactic
import Derived.BigQuiet
import Derived.Lib.SlBytesConst
namespace Go.Proofs.YtahooodkklgeiaaDoor
open Go.RowKit Crc

/-- bytes in new memory are handed back. -/
def Gives (l : List Nat) (w : World) (e : Ending) (w' : World) : Prop :=
  ∃ A cap l', Hid (l' = l) ∧ e = .returned (.slice A l'.length cap) ∧ Own w' w.heap.size A cap l' ∧ Below w.heap.size w w'
set_option maxHeartbeats 400000 in
theorem copy_any (b cap : Nat) (A : Option Addr) (l : List Nat) (w : World) (hl : l.length ≤ 100000) (hr : Rd w b A l) :
    Calls Tryd.prog 20 #[.slice A l.length cap] w (Gives l w) := by
  go_enter Tryd.func20, Tryd.ntmps20
  go_wp2_with (at_builtin; refine wpList_append_b rfl (.tmp 4) (.tmp 5) rfl w.heap.size none 0 [] rfl (Own.nil _ _) b A l.length cap l rfl rfl hr (by simp; omega) (Nat.le_refl _) ?_; intro A' cap' l' w' hl' hown hb _)
  go_ret
  exact ⟨A', cap', l', hl', rfl, hown, hb⟩
theorem copy_n (b cap n : Nat) (A : Option Addr) (l : List Nat) (w : World) (hn : l.length = n) (hl : n ≤ 100000) (hr : Rd w b A l) :
    Calls Tryd.prog 20 #[.slice A n cap] w (Gives l w) := by
  subst hn
  exact copy_any b cap A l w hl hr
set_option maxHeartbeats 400000 in
theorem cut_any (b cap : Nat) (A : Option Addr) (l : List Nat) (w : World) (hl : l.length ≤ cap) (hm : l.length ≤ 9223372036854775807) (hr : Rd w b A l) :
    Calls Tryd.prog 11 #[.slice A l.length cap] w (Gives (l.take 300) w) := by
  have hr' := hr.take 300
  by_cases hs : l.length ≤ 300
  · have c := copy_n b cap l.length A (l.take 300) w (by rw [List.length_take]; omega) (by omega) hr'
    have C := Lib.hid c
    clear c
    go_enter Tryd.func11, Tryd.ntmps11
    go_wp2_with (go_at_call 20; refine C.out.mono ?_; rintro e w' ⟨A', cap', l', hl', rfl, hown, hb⟩)
    go_ret
    exact ⟨A', cap', l', hl', rfl, hown, hb⟩
  · have c := copy_n b cap 300 A (l.take 300) w (by rw [List.length_take]; omega) (by omega) hr'
    have C := Lib.hid c
    clear c
    go_enter Tryd.func11, Tryd.ntmps11
    go_wp2_with (go_at_call 20; refine C.out.mono ?_; rintro e w' ⟨A', cap', l', hl', rfl, hown, hb⟩)
    go_ret
    exact ⟨A', cap', l', hl', rfl, hown, hb⟩

set_option maxHeartbeats 400000 in
theorem eqb_any (b b2 cap c2 : Nat) (A A2 : Option Addr) (l : List Nat) (w : World) (hr : Rd w b A l) (hr2 : Rd w b2 A2 l) :
    Calls Tryd.prog 16 #[.slice A l.length cap, .slice A2 l.length c2] w fun e w' => e = .returned (.bool true) ∧ w = w' := by
  have k1 := run_conv_b w b cap A l hr
  have k2 := run_conv_b w b2 c2 A2 l hr2
  obtain ⟨s, hs⟩ : ∃ s, s = strB l := ⟨_, rfl⟩
  rw [← hs] at k1 k2
  clear hs
  go_enter Tryd.func16, Tryd.ntmps16
  go_wp2
  go_ret
  exact ⟨rfl, rfl⟩
set_option maxHeartbeats 400000 in
theorem joins_any (a b : Reg) (n : Int) (x : Int) (e0 : Int) (hn : n ≤ 9223372036854775807) (hx : (n < 0 ∧ x = 0 ∧ e0 = 6) ∨ (0 ≤ n ∧ x = N (join a b n.toNat) ∧ e0 = 0)) (w : World) :
    Calls Tryd.prog 23 #[.int .u32 (N a), .int .u32 (N b), .int .i64 n, .int .u32 x, .int .i64 e0] w fun e w' => e = .returned (.bool true) ∧ Below w.heap.size w w' := by
  rcases hx with ⟨h1, rfl, rfl⟩ | ⟨h1, rfl, rfl⟩
  · go_enter Tryd.func23, Tryd.ntmps23
    go_wp2_with (go_at_call 18; refine (join_neg _ _ _ h1 _).mono ?_; rintro e w' ⟨rfl, rfl⟩)
    go_ret
    exact ⟨rfl, Below.refl _ _⟩
  · obtain ⟨k, rfl⟩ := Int.eq_ofNat_of_zero_le h1
    rw [Int.toNat_natCast]
    go_enter Tryd.func23, Tryd.ntmps23
    go_wp2_with (go_at_call 18; refine (join_any _ _ k (by omega) _).mono ?_; rintro e w' ⟨rfl, hb⟩)
    go_ret
    exact ⟨rfl, hb⟩
def digits : List Nat := [49, 50, 51, 52, 53, 54, 55, 56, 57]
theorem sum_nil_N : N (sum []) = 0 := by decide +kernel
theorem sum_digits_N : N (sum digits) = 3808858755 := by decide +kernel
theorem upd_digits_N : N (upd (upd (BitVec.ofNat 32 0) [49]) [50, 51, 52, 53, 54, 55, 56, 57]) = 3808858755 := by decide +kernel
theorem join_5_7 : N (join (BitVec.ofNat 32 5) (BitVec.ofNat 32 7) 0) = 2 := by decide +kernel
theorem join_0_7 : N (join (BitVec.ofNat 32 0) (BitVec.ofNat 32 7) 9) = 7 := by decide +kernel

theorem wp_region_below_lit {P : Program} {id : Nat} {Q : Exit → Act → World → Prop} {a : Act} {w : World} {l : List Oper} (b : Nat) (w0 : World) (hw : Below b w0 w) (hm : P.follows .mixedOrders = true) (hB : Region.lexB .any l.toArray = true)
    (h : wpQuiet P l.toArray (Below b w0) (fun a' => ∀ w', Below b w0 w' → Q .normal a' w') l a) : (Code.region id l.toArray true).wp P Q a w :=
  wp_region_quiet (C := Below b w0) hm hB hw.drew (by simpa using h)
/-- the world in which the nine digits lie. -/
def dw (w : World) : World := w.alloc (.cells #[.int .u8 49, .int .u8 50, .int .u8 51, .int .u8 52, .int .u8 53, .int .u8 54, .int .u8 55, .int .u8 56, .int .u8 57] 5 (9, 10))
theorem dw_below (w : World) : Below w.heap.size w (dw w) := (Below.refl _ _).alloc (Nat.le_refl _) _
theorem dw_size (w : World) : (dw w).heap.size = w.heap.size + 1 := by simp [dw]
theorem dw_cell (w : World) (j : Nat) (hj : j < 9) : (dw w).cell? ⟨w.heap.size, j, none⟩ = some (.int .u8 ((digits.getD j 0 : Nat) : Int)) := by
  rw [cell_of_row (dw w) w.heap.size j _ 5 (9, 10) (heap_alloc_new w _)]
  match j, hj with
  | 0, _ => rfl
  | 1, _ => rfl
  | 2, _ => rfl
  | 3, _ => rfl
  | 4, _ => rfl
  | 5, _ => rfl
  | 6, _ => rfl
  | 7, _ => rfl
  | 8, _ => rfl
theorem add_zero_addr (g o j : Nat) : (⟨g, o, none⟩ : Addr).add j = ⟨g, o + j, none⟩ := by unfold Addr.add; split <;> simp_all
theorem dw_rd (w w' : World) (hb : Below (dw w).heap.size (dw w) w') : Rd w' (dw w).heap.size (some ⟨w.heap.size, 0, none⟩) digits :=
  ⟨by decide, fun _ => ⟨_, rfl, by rw [dw_size]; simp, fun j hj => by
    rw [add_zero_addr, Nat.zero_add, hb.cell (p := ⟨w.heap.size, j, none⟩) (by rw [dw_size]; simp)]
    exact dw_cell w j hj⟩⟩
theorem dw_rd1 (w w' : World) (hb : Below (dw w).heap.size (dw w) w') : Rd w' (dw w).heap.size (some ⟨w.heap.size, 0, none⟩) [49] := (dw_rd w w' hb).take 1
theorem dw_rd8 (w w' : World) (hb : Below (dw w).heap.size (dw w) w') : Rd w' (dw w).heap.size (some ⟨w.heap.size, 1, none⟩) [50, 51, 52, 53, 54, 55, 56, 57] :=
  ⟨by decide, fun _ => ⟨_, rfl, by rw [dw_size]; simp, fun j hj => by
    rw [add_zero_addr, hb.cell (p := ⟨w.heap.size, 1 + j, none⟩) (by rw [dw_size]; simp), dw_cell w (1 + j) (by simp at hj; omega), Nat.add_comm 1 j]
    rfl⟩⟩
theorem dw_tab {w w' : World} (hT : HasTab w) (hb : Below (dw w).heap.size (dw w) w') : HasTab w' := (hT.below (dw_below w) hT.pos).below hb (by rw [dw_size]; omega)
theorem dw1 {w w' : World} (hT : HasTab w) (hb : Below (dw w).heap.size (dw w) w') : Calls Tryd.prog 12 #[.slice none 0 0] w' fun e w'' => e = .returned (.int .u32 0) ∧ Below (dw w).heap.size (dw w) w'' := by
  have c := sum_any 0 0 none [] w' (by simp) (Rd.empty _ _ _) (dw_tab hT hb)
  rw [sum_nil_N] at c
  exact c.mono fun _ _ ⟨he, hw⟩ => ⟨he, by rw [← hw]; exact hb⟩
theorem dw2 {w w' : World} (hT : HasTab w) (hb : Below (dw w).heap.size (dw w) w') : Calls Tryd.prog 12 #[.slice (some ⟨w.heap.size, 0, none⟩) 9 9] w' fun e w'' => e = .returned (.int .u32 3808858755) ∧ Below (dw w).heap.size (dw w) w'' := by
  have c := sum_any _ 9 _ digits w' (by decide) (dw_rd w w' hb) (dw_tab hT hb)
  rw [sum_digits_N] at c
  exact c.mono fun _ _ ⟨he, hw⟩ => ⟨he, by rw [← hw]; exact hb⟩
theorem dw3 {w w' : World} (hT : HasTab w) (hb : Below (dw w).heap.size (dw w) w') (x : Int) (hx : x = N (upd (BitVec.ofNat 32 0) [49])) : Calls Tryd.prog 14 #[.int .u32 0, .slice (some ⟨w.heap.size, 0, none⟩) 1 9] w' fun e w'' => e = .returned (.int .u32 x) ∧ Below (dw w).heap.size (dw w) w'' := by
  have c := update_any (BitVec.ofNat 32 0) _ 9 _ [49] w' (by decide) (dw_rd1 w w' hb) (dw_tab hT hb)
  rw [show N (BitVec.ofNat 32 0) = 0 by decide, ← hx] at c
  exact c.mono fun _ _ ⟨he, hw⟩ => ⟨he, by rw [← hw]; exact hb⟩
theorem dw4 {w w' : World} (hT : HasTab w) (hb : Below (dw w).heap.size (dw w) w') (x : Int) (hx : x = N (upd (BitVec.ofNat 32 0) [49])) : Calls Tryd.prog 14 #[.int .u32 x, .slice (some ⟨w.heap.size, 1, none⟩) 8 8] w' fun e w'' => e = .returned (.int .u32 3808858755) ∧ Below (dw w).heap.size (dw w) w'' := by
  have c := update_any (upd (BitVec.ofNat 32 0) [49]) _ 8 _ [50, 51, 52, 53, 54, 55, 56, 57] w' (by decide) (dw_rd8 w w' hb) (dw_tab hT hb)
  rw [upd_digits_N, ← hx] at c
  exact c.mono fun _ _ ⟨he, hw⟩ => ⟨he, by rw [← hw]; exact hb⟩
theorem dw5 {w w' : World} (hb : Below (dw w).heap.size (dw w) w') : Calls Tryd.prog 23 #[.int .u32 5, .int .u32 7, .int .i64 0, .int .u32 2, .int .i64 0] w' fun e w'' => e = .returned (.bool true) ∧ Below (dw w).heap.size (dw w) w'' :=
  (joins_any (BitVec.ofNat 32 5) (BitVec.ofNat 32 7) 0 2 0 (by decide) (.inr ⟨by decide, by rw [← join_5_7]; rfl, rfl⟩) w').mono fun _ _ ⟨he, hw⟩ => ⟨he, hb.trans (hw.mono hb.size)⟩
theorem dw6 {w w' : World} (hb : Below (dw w).heap.size (dw w) w') : Calls Tryd.prog 23 #[.int .u32 0, .int .u32 7, .int .i64 9, .int .u32 7, .int .i64 0] w' fun e w'' => e = .returned (.bool true) ∧ Below (dw w).heap.size (dw w) w'' :=
  (joins_any (BitVec.ofNat 32 0) (BitVec.ofNat 32 7) 9 7 0 (by decide) (.inr ⟨by decide, by rw [← join_0_7]; rfl, rfl⟩) w').mono fun _ _ ⟨he, hw⟩ => ⟨he, hb.trans (hw.mono hb.size)⟩
theorem dw7 {w w' : World} (hb : Below (dw w).heap.size (dw w) w') : Calls Tryd.prog 23 #[.int .u32 1, .int .u32 0, .int .i64 (-1), .int .u32 0, .int .i64 6] w' fun e w'' => e = .returned (.bool true) ∧ Below (dw w).heap.size (dw w) w'' :=
  (joins_any (BitVec.ofNat 32 1) (BitVec.ofNat 32 0) (-1) 0 6 (by decide) (.inl ⟨by decide, rfl, rfl⟩) w').mono fun _ _ ⟨he, hw⟩ => ⟨he, hb.trans (hw.mono hb.size)⟩
set_option maxHeartbeats 400000 in
theorem works_any (w : World) (hT : HasTab w) :
    Calls Tryd.prog 17 #[] w fun e w' => e = .returned (.bool true) ∧ Below w.heap.size w w' := by
  have kc := fun (w : World) (C : Array Value) (n c : Nat) => Lib.run_convert_bytes_const (P := Tryd.prog) w 23 5 C n c Tryd.underlying23 Tryd.underlying5
  obtain ⟨x, hx⟩ : ∃ x, x = N (upd (BitVec.ofNat 32 0) [49]) := ⟨_, rfl⟩
  have Hx := Lib.hid hx
  clear hx
  go_enter Tryd.func17, Tryd.ntmps17
  go_wp2_with fail
  rw [show w.alloc (.cells #[.int .u8 49, .int .u8 50, .int .u8 51, .int .u8 52, .int .u8 53, .int .u8 54, .int .u8 55, .int .u8 56, .int .u8 57] 5 (9, 10)) = dw w from rfl]
  refine wp_region_below_lit (dw w).heap.size (dw w) (Below.refl _ _) (by kernel_rfl) (by kernel_rfl) ?_
  repeat (first | go_big_quiet_skip | (go_big_quiet_want; go_big_quiet_op; first | go_big_quiet_on | ((with_reducible refine ⟨_, fun _ _ => rfl, ?_⟩); go_big_quiet_on) | go_big_quiet_call ((intro hb'; with_reducible (first | exact dw1 hT hb' | exact dw2 hT hb' | exact dw3 hT hb' x Hx.out | exact dw4 hT hb' x Hx.out | exact dw5 hb' | exact dw6 hb' | exact dw7 hb')))))
  refine wpQuiet_nil ?_
  intro w' hb'
  go_wp2
  go_ret
  exact ⟨rfl, (dw_below w).trans (hb'.mono (by rw [dw_size]; omega))⟩
end Go.Proofs.YtahooodkklgeiaaDoor

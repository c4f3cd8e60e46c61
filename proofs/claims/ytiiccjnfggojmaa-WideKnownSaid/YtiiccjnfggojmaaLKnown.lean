/-
  THE LAW WideKnown, walked.
-/
import Derived.Test.YtiiccjnfggojmaaLJoined
import Derived.Test.YtiiccjnfggojmaaLOrder
import Derived.Test.YtiiccjnfggojmaaLDoes
namespace Go.Proofs.Ytiiccjnfggojmaa
open Go.RowKit Wd

def endsL : List Int := [-9223372036854775808, -9223372036854775807, -4294967296, -2147483649, -3, -2, -1, 0, 1, 2, 3, 2147483647, 2147483648, 4294967296, 3037000499, 3037000500, 4611686018427387904, 9223372036854775806, 9223372036854775807]
def endsV : Array Value := #[.int .i64 (-9223372036854775808), .int .i64 (-9223372036854775807), .int .i64 (-4294967296), .int .i64 (-2147483649), .int .i64 (-3), .int .i64 (-2), .int .i64 (-1), .int .i64 0, .int .i64 1, .int .i64 2, .int .i64 3, .int .i64 2147483647, .int .i64 2147483648, .int .i64 4294967296, .int .i64 3037000499, .int .i64 3037000500, .int .i64 4611686018427387904, .int .i64 9223372036854775806, .int .i64 9223372036854775807]
theorem endsV_at (k : Nat) (hk : k < 19) : ∃ n, endsV[k]? = some (.int .i64 n) ∧ In64 n := by
  have e : endsV = (endsL.map (Value.int .i64)).toArray := rfl
  have hl : k < endsL.length := hk
  refine ⟨endsL[k], ?_, ?_⟩
  · rw [e, List.getElem?_toArray, List.getElem?_map, List.getElem?_eq_getElem hl]
    rfl
  · have h : ∀ n ∈ endsL, -9223372036854775808 ≤ n ∧ n ≤ 9223372036854775807 := by decide
    exact h _ (List.getElem_mem hl)
theorem checks_at {a c : Int} {b : Nat} {w0 w : World} (hb : Below b w0 w) (hs : b ≤ w0.heap.size) (ha : In64 a) (hc : In64 c) : Calls Try.prog 5 #[.int .i64 a, .int .i64 c] w fun e w' => e = .returned (.bool true) ∧ Below b w0 w' := callIn hb hs (checks_any a c w ha hc)
theorem does_at {x y : X} {a c : Int} {b : Nat} {w0 w : World} (hb : Below b w0 w) (hs : b ≤ w0.heap.size) (ha : In64 a) (hc : In64 c) : Calls Try.prog 11 #[.agg (wc x), .agg (wc y), .agg #[.int .i64 a, .int .i64 c]] w fun e w' => e = .returned (.bool true) ∧ Below b w0 w' := callIn hb hs (does_any x y a c w ha hc)
theorem fits_at {x : X} {n : Int} {b : Nat} {w0 w : World} (hb : Below b w0 w) (hs : b ≤ w0.heap.size) (hn : In64 n) : Calls Try.prog 7 #[.agg (wc x), .int .i64 n] w fun e w' => e = .returned (.bool true) ∧ Below b w0 w' := callIn hb hs (fits_any x n w hn)
theorem order_at {x y z : X} {m n : Int} {b : Nat} {w0 w : World} (hb : Below b w0 w) (hs : b ≤ w0.heap.size) (hm : In64 m) (hn : In64 n) : Calls Try.prog 10 #[.agg (wc x ++ (wc y ++ wc z)), .int .i64 m, .int .i64 n] w fun e w' => e = .returned (.bool true) ∧ Below b w0 w' := by
  have c := callIn hb hs (order_any x y z m n w hm hn)
  rw [Array.append_assoc] at c
  exact c
theorem negx_at {x : X} {b : Nat} {w0 w : World} (hb : Below b w0 w) (hs : b ≤ w0.heap.size) : Calls Try.prog 20 #[.agg (wc x)] w fun e w' => e = .returned (.agg (wc (-x))) ∧ Below b w0 w' := neg_at hb hs rfl
theorem dot_nil {b : Nat} {w0 w : World} (hb : Below b w0 w) (hs : b ≤ w0.heap.size) : Calls Try.prog 21 #[.slice none 0 0] w fun r w' => r = .returned (.tuple #[.int .i64 0, .int .i64 0]) ∧ Below b w0 w' :=
  dot_at (l := []) (m := 0) hb hs rfl (Nat.zero_le _) (fun p hp => by cases hp) (fun k hk => absurd hk (by simp)) (by kernel_rfl)
/-- three pairs in a block of their own. -/
def sixV (a c : Int) : Array Value := #[.int .i64 a, .int .i64 c, .int .i64 c, .int .i64 c, .int .i64 a, .int .i64 (-1)]
theorem dots_six {a c : Int} {g b : Nat} {w0 w : World} (hb : Below b w0 w) (hs : b ≤ w0.heap.size) (ha : In64 a) (hc : In64 c) (hg : Blk w0 g 38 (sixV a c)) (hgb : g < b) :
    Calls Try.prog 6 #[.slice (some ⟨g, 0, none⟩) 3 3] w fun e w' => e = .returned (.bool true) ∧ Below b w0 w' := by
  refine callIn hb hs (dots_law (some ⟨g, 0, none⟩) 3 [(a, c), (c, c), (a, -1)] w (Nat.le_refl _) ?_ (prs_cons (hg.below hb hgb) _ fun k hk => ?_))
  · have i1 : In64 (-1) := by unfold In64; decide
    intro p hp
    simp only [List.mem_cons, List.not_mem_nil, or_false] at hp
    rcases hp with rfl | rfl | rfl
    · exact ⟨ha, hc⟩
    · exact ⟨hc, hc⟩
    · exact ⟨ha, i1⟩
  · obtain rfl | rfl | rfl : k = 0 ∨ k = 1 ∨ k = 2 := by simp at hk; omega
    all_goals exact ⟨rfl, rfl⟩
theorem wp_six {o : Oper} {a : Act} {w : World} {K : Act → World → Prop} {Q : Exit → Act → World → Prop} (x y z : Operand) (ho : o.op = .buildSlice 40 3 #[(0, x), (1, y), (2, z)]) (p q : Int)
    (hx : a.eval x = .agg #[.int .i64 p, .int .i64 q]) (hy : a.eval y = .agg #[.int .i64 q, .int .i64 q]) (hz : a.eval z = .agg #[.int .i64 p, .int .i64 (-1)])
    (h : K (a.put o.dst (.slice (some ⟨w.heap.size, 0, none⟩) 3 3)) (w.alloc (.cells (sixV p q) 38))) : o.wp Try.prog a w K Q := by
  have e : (Instr.buildSlice 40 3 #[(0, .agg #[.int .i64 p, .int .i64 q]), (1, .agg #[.int .i64 q, .int .i64 q]), (2, .agg #[.int .i64 p, .int .i64 (-1)])]).run Try.prog w = .ok (.slice (some ⟨w.heap.size, 0, none⟩) 3 3) (w.alloc (.cells (sixV p q) 38)) := by kernel_rfl
  unfold Oper.wp execOp
  simp only [ho, List.map_toArray, List.map_cons, List.map_nil, hx, hy, hz, Sem.run_bind, e, Result.andThen_ok, Sem.run_pure]
  exact h
theorem quiet_three {b : Nat} {w0 : World} {o : Oper} {a : Act} {K : Act → Prop} (p q r : Operand) (ho : o.op = .build 44 #[(0, p), (1, q), (2, r)]) (x y z : X) (hx : a.eval p = .agg (wc x)) (hy : a.eval q = .agg (wc y)) (hz : a.eval r = .agg (wc z))
    (hk : K (a.put o.dst (.agg (wc x ++ wc y ++ wc z)))) : o.quiet Try.prog a (Below b w0) K := by
  refine quiet_of_exec (fun w => ?_) hk
  have e : (Instr.build 44 #[(0, .agg (wc x)), (1, .agg (wc y)), (2, .agg (wc z))]).run Try.prog w = .ok (.agg (wc x ++ wc y ++ wc z)) w := by kernel_rfl
  unfold execOp
  simp only [ho, List.map_toArray, List.map_cons, List.map_nil, hx, hy, hz, Sem.run_bind, e, Result.andThen_ok, Sem.run_pure]
set_option maxRecDepth 100000 in
set_option maxHeartbeats 8000000 in
theorem known_any (w : World) : Calls Try.prog 4 #[] w fun e w' => e = .returned (.bool true) ∧ Below w.heap.size w w' := by
  go_enter Try.func4, Try.ntmps4
  go_wp2
  rw [show (#[.int .i64 (-9223372036854775808), .int .i64 (-9223372036854775807), .int .i64 (-4294967296), .int .i64 (-2147483649), .int .i64 (-3), .int .i64 (-2), .int .i64 (-1), .int .i64 0, .int .i64 1, .int .i64 2, .int .i64 3, .int .i64 2147483647, .int .i64 2147483648, .int .i64 4294967296, .int .i64 3037000499, .int .i64 3037000500, .int .i64 4611686018427387904, .int .i64 9223372036854775806, .int .i64 9223372036854775807] : Array Value) = endsV from rfl]
  go_loopw [2, 3, 4, 5] (fun s _ _ _ wr => ∃ i : Nat, i ≤ 19 ∧ s = .int .i64 i ∧ Blk wr w.heap.size 2 endsV ∧ Below w.heap.size w wr) (fun s _ _ _ _ => 19 - (intOf s).toNat)
  case atStart => exact ⟨0, by omega, rfl, Blk.new _ _ _, (Below.refl _ _).alloc (Nat.le_refl _) _⟩
  case round =>
    obtain ⟨i, hi, rfl, he0, hb0⟩ := hrel
    have i0 : (0 : Int) ≤ (i : Int) := by omega
    by_cases hlt : i < 19
    · have i1 : (i : Int) < 19 := by omega
      obtain ⟨m, em, im⟩ := endsV_at i hlt
      go_wp2
      obtain ⟨wo, rfl⟩ : ∃ wo : World, wo = wr := ⟨_, rfl⟩
      go_loopw [3, 4, 5] (fun s _ _ wr => ∃ k : Nat, k ≤ 19 ∧ s = .int .i64 k ∧ Blk wr w.heap.size 2 endsV ∧ Below w.heap.size w wr) (fun s _ _ _ => 19 - (intOf s).toNat)
      case atStart => exact ⟨0, by omega, rfl, he0, hb0⟩
      case round =>
        obtain ⟨k, hk, rfl, he, hb⟩ := hrel
        clear he0 hb0
        have k0 : (0 : Int) ≤ (k : Int) := by omega
        by_cases hlk : k < 19
        · have k1 : (k : Int) < 19 := by omega
          obtain ⟨n, en, jn⟩ := endsV_at k hlk
          have ci := (he.cell i).trans em
          have ck := (he.cell k).trans en
          have le := he.lt
          have hsz := hb.size
          obtain ⟨u, hu⟩ : ∃ u, u = m % 18446744073709551616 := ⟨_, rfl⟩
          obtain ⟨v, hv⟩ : ∃ v, v = n % 18446744073709551616 := ⟨_, rfl⟩
          have um : IntKind.u64.wrap m = u := by rw [IntKind.wrap_u64, hu]
          have un : IntKind.u64.wrap n = v := by rw [IntKind.wrap_u64, hv]
          obtain ⟨x, hx⟩ : ∃ x : X, #[.int .u64 u, .int .u64 v, .int .u64 0] = wc x := by
            obtain ⟨a1, a2, a3⟩ := mk_parts u v 0 (by omega) (by omega) (by omega)
            exact ⟨mk u v 0, by unfold wc; rw [a1, a2, a3]⟩
          obtain ⟨y, hy⟩ : ∃ y : X, #[.int .u64 v, .int .u64 u, .int .u64 v] = wc y := by
            obtain ⟨a1, a2, a3⟩ := mk_parts v u v (by omega) (by omega) (by omega)
            exact ⟨mk v u v, by unfold wc; rw [a1, a2, a3]⟩
          have HX := Lib.hid hx
          have HY := Lib.hid hy
          clear hx hy hu hv
          go_upto_region 8 with (fail)
          refine wp_region_open 27 wr.heap.size wr (Below.refl _ _) (by kernel_rfl) (by kernel_rfl) (by simp) (by kernel_rfl) (by kernel_rfl) ?_
          simp only [List.take_succ_cons, List.take_zero]
          repeat (first
              | go_big_quiet_skip
              | (go_big_quiet_want; (first
                  | (with_reducible refine quiet_i64A (o := ⟨some 24, .load 2 (.tmp 23), _, _, _, _⟩) (.tmp 23) rfl ⟨w.heap.size, i, none⟩ rfl le _ ci ?_)
                  | (with_reducible refine quiet_i64A (o := ⟨some 29, .load 2 (.tmp 28), _, _, _, _⟩) (.tmp 28) rfl ⟨w.heap.size, k, none⟩ rfl le _ ck ?_)
                  | (with_reducible refine quiet_i64A (o := ⟨some 35, .load 2 (.tmp 34), _, _, _, _⟩) (.tmp 34) rfl ⟨w.heap.size, k, none⟩ rfl le _ ck ?_)
                  | (with_reducible refine quiet_i64A (o := ⟨some 40, .load 2 (.tmp 39), _, _, _, _⟩) (.tmp 39) rfl ⟨w.heap.size, i, none⟩ rfl le _ ci ?_)
                  | (with_reducible refine quiet_i64A (o := ⟨some 45, .load 2 (.tmp 44), _, _, _, _⟩) (.tmp 44) rfl ⟨w.heap.size, k, none⟩ rfl le _ ck ?_)); simp only [Act.put, List.setIfInBounds_toArray, List.set_cons_succ, List.set_cons_zero]; go_big_quiet_on)
              | (go_big_quiet_want; go_big_quiet_op; first | go_big_quiet_on | ((with_reducible refine ⟨_, fun _ _ => rfl, ?_⟩); go_big_quiet_on)))
          refine wpQuiet_nil ?_
          refine wpAnyH_alloc2 (f := 2) (i := 27) (j := 28) (x := 4) (y := 5) (by decide) (by decide) ⟨_, rfl, rfl, rfl, rfl⟩ ⟨_, rfl, rfl, rfl, rfl⟩ (by kernel_rfl) (below_zw (Nat.le_refl _)) ((Below.refl _ _).drew) ?_
          intro g4 g5 hg
          have hs3 : wr.drew.heap.size = wr.heap.size := rfl
          rw [hs3] at hg
          have a1 : wr.heap.size ≤ g4 ∧ g4 < wr.heap.size + 2 := by omega
          have b1 : wr.heap.size ≤ g5 ∧ g5 < wr.heap.size + 2 := by omega
          have n1 : g4 ≠ g5 := by omega
          obtain ⟨w3, hw3⟩ : ∃ w3, w3 = (wr.drew.alloc Zw).alloc Zw := ⟨_, rfl⟩
          have z4 := blk_zw2 wr.drew g4 a1.1 a1.2
          have z5 := blk_zw2 wr.drew g5 b1.1 b1.2
          have B3 : Below wr.heap.size wr ((wr.drew.alloc Zw).alloc Zw) := below_zw (Nat.le_refl _) _ (below_zw (Nat.le_refl _) _ (Below.refl _ _).drew)
          rw [← hw3] at z4 z5 B3 ⊢
          have B4 := below_setRow B3 a1.1 (wc x)
          have B5 := below_setRow B4 b1.1 (wc y)
          have e3 := he.below B3 le
          have e5 := (e3.rowFar (g' := g4) (by omega) (wc x)).rowFar (g' := g5) (by omega) (wc y)
          clear hw3 hg a1 b1 hs3 e3
          simp only [Act.put, List.setIfInBounds_toArray, List.set_cons_succ, List.set_cons_zero, ptr]
          refine storeH (i := 29) (o := ⟨none, .store 24 (.tmp 4) (.tmp 31), _, _, _, _⟩) (by kernel_rfl) rfl rfl (.tmp 4) (.tmp 31) rfl rfl g4 x (ofI 0) rfl (congrArg Value.agg HX.out) z4 B4 ?_
          refine storeH (i := 30) (o := ⟨none, .store 24 (.tmp 5) (.tmp 47), _, _, _, _⟩) (by kernel_rfl) rfl rfl (.tmp 5) (.tmp 47) rfl rfl g5 y (ofI 0) rfl (congrArg Value.agg HY.out) (z5.rowFar (Ne.symm n1) _) B5 ?_
          refine wpAnyH_done (by kernel_rfl) (calm_normal ?_) _
          obtain ⟨W, hW⟩ : ∃ W, W = (w3.setRow g4 (wc x)).setRow g5 (wc y) := ⟨_, rfl⟩
          have q4 : Blk W g4 24 (wc x) := by rw [hW]; exact (z4.row _).rowFar n1 _
          have q5 : Blk W g5 24 (wc y) := by rw [hW]; exact (z5.rowFar (Ne.symm n1) _).row _
          rw [← hW] at B5 e5 ⊢
          have BW := hb.trans (B5.mono hsz)
          clear hW B3 B4 B5 z4 z5 n1 he hb ci ck le hsz
          have ci := (e5.cell i).trans em
          have ck := (e5.cell k).trans en
          have le := e5.lt
          have l4 := q4.lt
          have l5 := q5.lt
          have S := Nat.le_refl W.heap.size
          go_upto_region 9 with (fail)
          simp only [List.append_eq, List.cons_append, List.nil_append]
          refine wp_region_one (on := ⟨some 97, .buildSlice 40 3 #[(0, .tmp 82), (1, .tmp 91), (2, .tmp 96)], _, _, _, _⟩) 49 W.heap.size W (Below.refl _ _) (by kernel_rfl) rfl (by kernel_rfl) ?_
          simp only [List.take_succ_cons, List.take_zero, List.drop_succ_cons, List.drop_zero]
          repeat (first
              | go_big_quiet_skip
              | (go_big_quiet_want; (first
                  | (with_reducible refine quiet_i64A (o := ⟨some 51, .load 2 (.tmp 50), _, _, _, _⟩) (.tmp 50) rfl ⟨w.heap.size, i, none⟩ rfl le _ ci ?_)
                  | (with_reducible refine quiet_i64A (o := ⟨some 55, .load 2 (.tmp 54), _, _, _, _⟩) (.tmp 54) rfl ⟨w.heap.size, k, none⟩ rfl le _ ck ?_)
                  | (with_reducible refine quiet_row (o := ⟨some 59, .load 24 (.tmp 4), _, _, _, _⟩) 24 (.tmp 4) rfl g4 0 rfl l4 (wc x) _ q4.range Try.underlying24 rfl (wc_info _) ?_)
                  | (with_reducible refine quiet_row (o := ⟨some 60, .load 24 (.tmp 5), _, _, _, _⟩) 24 (.tmp 5) rfl g5 0 rfl l5 (wc y) _ q5.range Try.underlying24 rfl (wc_info _) ?_)
                  | (with_reducible refine quiet_i64A (o := ⟨some 64, .load 2 (.tmp 63), _, _, _, _⟩) (.tmp 63) rfl ⟨w.heap.size, i, none⟩ rfl le _ ci ?_)
                  | (with_reducible refine quiet_i64A (o := ⟨some 68, .load 2 (.tmp 67), _, _, _, _⟩) (.tmp 67) rfl ⟨w.heap.size, k, none⟩ rfl le _ ck ?_)
                  | (with_reducible refine quiet_i64A (o := ⟨some 77, .load 2 (.tmp 76), _, _, _, _⟩) (.tmp 76) rfl ⟨w.heap.size, i, none⟩ rfl le _ ci ?_)
                  | (with_reducible refine quiet_i64A (o := ⟨some 81, .load 2 (.tmp 80), _, _, _, _⟩) (.tmp 80) rfl ⟨w.heap.size, k, none⟩ rfl le _ ck ?_)
                  | (with_reducible refine quiet_i64A (o := ⟨some 86, .load 2 (.tmp 85), _, _, _, _⟩) (.tmp 85) rfl ⟨w.heap.size, k, none⟩ rfl le _ ck ?_)
                  | (with_reducible refine quiet_i64A (o := ⟨some 90, .load 2 (.tmp 89), _, _, _, _⟩) (.tmp 89) rfl ⟨w.heap.size, k, none⟩ rfl le _ ck ?_)
                  | (with_reducible refine quiet_i64A (o := ⟨some 95, .load 2 (.tmp 94), _, _, _, _⟩) (.tmp 94) rfl ⟨w.heap.size, i, none⟩ rfl le _ ci ?_)); simp only [Act.put, List.setIfInBounds_toArray, List.set_cons_succ, List.set_cons_zero]; go_big_quiet_on)
              | (go_big_quiet_want; go_big_quiet_op; first | go_big_quiet_on | ((with_reducible refine ⟨_, fun _ _ => rfl, ?_⟩); go_big_quiet_on) | go_big_quiet_call ((intro B; with_reducible (first
                  | exact checks_at B S im jn
                  | exact does_at B S im jn)))))
          refine wpQuiet_nil ?_
          refine ⟨rfl, fun w5 B => wp_six (.tmp 82) (.tmp 91) (.tmp 96) rfl m n rfl rfl rfl ?_⟩
          simp only [Act.put, List.setIfInBounds_toArray, List.set_cons_succ, List.set_cons_zero]
          obtain ⟨w6, hw6⟩ : ∃ w6, w6 = w5.alloc (.cells (sixV m n) 38) := ⟨_, rfl⟩
          have sx : Blk w6 w5.heap.size 38 (sixV m n) := by rw [hw6]; exact Blk.new _ _ _
          have B6 : Below W.heap.size W w6 := by rw [hw6]; exact B.alloc B.size _
          have hgb := sx.lt
          rw [← hw6]
          clear hw6 B ci ck S
          have e6 := e5.below B6 le
          have q4 := q4.below B6 l4
          have q5 := q5.below B6 l5
          have BW6 := BW.trans (B6.mono BW.size)
          clear e5 le l4 l5 B6 BW
          have ci := (e6.cell i).trans em
          have ck := (e6.cell k).trans en
          have le := e6.lt
          have l4 := q4.lt
          have l5 := q5.lt
          have S := Nat.le_refl w6.heap.size
          repeat (first
              | go_big_quiet_skip
              | (go_big_quiet_want; (first
                  | (with_reducible refine quiet_row (o := ⟨some 102, .load 24 (.tmp 4), _, _, _, _⟩) 24 (.tmp 4) rfl g4 0 rfl l4 (wc x) _ q4.range Try.underlying24 rfl (wc_info _) ?_)
                  | (with_reducible refine quiet_i64A (o := ⟨some 106, .load 2 (.tmp 105), _, _, _, _⟩) (.tmp 105) rfl ⟨w.heap.size, i, none⟩ rfl le _ ci ?_)
                  | (with_reducible refine quiet_row (o := ⟨some 111, .load 24 (.tmp 4), _, _, _, _⟩) 24 (.tmp 4) rfl g4 0 rfl l4 (wc x) _ q4.range Try.underlying24 rfl (wc_info _) ?_)
                  | (with_reducible refine quiet_row (o := ⟨some 112, .load 24 (.tmp 5), _, _, _, _⟩) 24 (.tmp 5) rfl g5 0 rfl l5 (wc y) _ q5.range Try.underlying24 rfl (wc_info _) ?_)
                  | (with_reducible refine quiet_row (o := ⟨some 113, .load 24 (.tmp 5), _, _, _, _⟩) 24 (.tmp 5) rfl g5 0 rfl l5 (wc y) _ q5.range Try.underlying24 rfl (wc_info _) ?_)
                  | (with_reducible refine quiet_i64A (o := ⟨some 119, .load 2 (.tmp 118), _, _, _, _⟩) (.tmp 118) rfl ⟨w.heap.size, i, none⟩ rfl le _ ci ?_)
                  | (with_reducible refine quiet_i64A (o := ⟨some 123, .load 2 (.tmp 122), _, _, _, _⟩) (.tmp 122) rfl ⟨w.heap.size, k, none⟩ rfl le _ ck ?_)
                  | (with_reducible refine quiet_three (o := ⟨some 115, .build 44 #[(0, .tmp 111), (1, .tmp 112), (2, .tmp 114)], _, _, _, _⟩) (.tmp 111) (.tmp 112) (.tmp 114) rfl x y (-y) rfl rfl rfl ?_)); simp only [Act.put, List.setIfInBounds_toArray, List.set_cons_succ, List.set_cons_zero]; go_big_quiet_on)
              | (go_big_quiet_want; go_big_quiet_op; first | go_big_quiet_on | ((with_reducible refine ⟨_, fun _ _ => rfl, ?_⟩); go_big_quiet_on) | go_big_quiet_call ((intro B; with_reducible (first
                  | exact dots_six B S im jn sx hgb
                  | exact fits_at B S im
                  | exact negx_at B S
                  | exact order_at B S im jn)))))
          refine wpQuiet_nil ?_
          intro w7 B
          have e7 := e6.below B le
          have BW7 := BW6.trans (B.mono BW6.size)
          clear ci ck l4 l5 S B e6 BW6 q4 q5 sx hgb le
          go_wp2
          go_roundw
          case rel => exact ⟨k + 1, by omega, by go_num, e7, BW7⟩
          case measure => simp [intOf]; omega
        · go_wp2
          go_roundw
          case rel => exact ⟨i + 1, by omega, by go_num, he, hb⟩
          case measure => simp [intOf]; omega
    · have B := Below.refl wr.heap.size wr
      have S := Nat.le_refl wr.heap.size
      go_wp2_with (first
        | (go_at_call 21; with_reducible refine (dot_nil B S).mono ?_; rintro z w8 ⟨rfl, B⟩)
        | (go_at_call 19; with_reducible refine (works_at B S).mono ?_; rintro z w9 ⟨rfl, B⟩))
      go_ret
      exact ⟨rfl, hb0.trans (B.mono hb0.size)⟩
end Go.Proofs.Ytiiccjnfggojmaa

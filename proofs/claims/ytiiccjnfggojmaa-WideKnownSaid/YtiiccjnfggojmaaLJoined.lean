/-
  THE LAW WideJoined, walked.
-/
import Derived.Test.YtiiccjnfggojmaaW16
namespace Go.Proofs.Ytiiccjnfggojmaa
open Go.RowKit Wd

set_option maxRecDepth 100000 in
set_option maxHeartbeats 4000000 in
theorem joined_law (A : Option Addr) (cap : Nat) (l : List (Int × Int)) (A' : Option Addr) (cap' : Nat) (m : List (Int × Int)) (turn : Int) (w : World) (ht : In64 turn)
    (hlc : l.length ≤ cap) (hf : Fit64 l) (hr : Prs w A l) (hmc : m.length ≤ cap') (hf' : Fit64 m) (hr' : Prs w A' m) :
    Calls Try.prog 8 #[.slice A l.length cap, .slice A' m.length cap', .int .i64 turn] w fun e w' => e = .returned (.bool true) ∧ Below w.heap.size w w' := by
  obtain ⟨n1, hn1, hn2, hif1⟩ := cut60 l.length
  obtain ⟨n2, hm1, hm2, hif2⟩ := cut60 m.length
  have hc1 : (n1 : Int) ≤ (cap : Int) := by omega
  have hc2 : (n2 : Int) ≤ (cap' : Int) := by omega
  have f1 := fit64_take hf n1
  have f2 := fit64_take hf' n2
  have r1 := hr.take n1
  have r2 := hr'.take n2
  have k1 : (l.take n1).length = n1 := by rw [List.length_take]; omega
  have k2 : (m.take n2).length = n2 := by rw [List.length_take]; omega
  obtain ⟨x, hx⟩ : ∃ x, x = l.take n1 := ⟨_, rfl⟩
  obtain ⟨y, hy⟩ : ∃ y, y = m.take n2 := ⟨_, rfl⟩
  rw [← hx] at f1 r1 k1
  rw [← hy] at f2 r2 k2
  clear hx hy hr hr' hf hf'
  have B := Below.refl w.heap.size w
  have S := Nat.le_refl w.heap.size
  go_enter Try.func8, Try.ntmps8
  go_upto_region 3 with (go_at_call 19; with_reducible refine (works_at B S).mono ?_; rintro e w1 ⟨rfl, B⟩)
  refine wp_region_below_lit w.heap.size w B (by kernel_rfl) (by kernel_rfl) ?_
  clear B
  repeat (first
      | go_big_quiet_skip
      | (go_big_quiet_want; go_big_quiet_op; first | go_big_quiet_on | ((with_reducible refine ⟨_, fun _ _ => rfl, ?_⟩); go_big_quiet_on)))
  refine wpQuiet_nil ?_
  intro w2 B
  have s2 := B.size
  clear hif1 hif2
  have x2 : Prs (w2.alloc (.cells #[] 38)) A x := r1.below (B.alloc s2 _) (Nat.le_refl _)
  go_upto_region 5 with (first
    | (at_builtin; refine wpList_append_p rfl (.tmp 33) (.tmp 34) rfl w2.heap.size (some ⟨w2.heap.size, 0, none⟩) 0 [] 0 rfl rfl (POwn.new_ w2 (Nat.le_refl _)) A n1 cap x rfl k1 x2 (by simp; omega) (by simp) ?_; intro A1 cap1 b1 w3 hb1 own1 B3)
    | (at_builtin; refine wpList_append_p rfl (.tmp 35) (.tmp 36) rfl w2.heap.size A1 cap1 b1 b1.length rfl rfl own1 A' n2 cap' y rfl k2 (r2.below (B.trans (((Below.refl w2.heap.size w2).alloc (Nat.le_refl _) (.cells #[] 38)).trans B3 |>.mono s2)) (Nat.le_refl _)) (by rw [hb1.out]; simp; omega) (by have := B3.size; simp at this; omega) ?_; intro A2 cap2 bl w4 hbl own2 B4))
  have B24 : Below w2.heap.size w2 w4 := (((Below.refl _ _).alloc (Nat.le_refl _) _).trans B3).trans B4
  have Bw4 : Below w.heap.size w w4 := B.trans (B24.mono s2)
  have hbl' : bl = x ++ y := by rw [hbl.out, hb1.out]; rfl
  have hlen : bl.length = n1 + n2 := by rw [hbl', List.length_append, k1, k2]
  have fbl : Fit64 bl := by rw [hbl']; exact fit64_append f1 f2
  have dbl : dots bl = dots x + dots y := by rw [hbl', dots_append]
  obtain ⟨k, hk⟩ : ∃ k : Nat, turn % ((bl.length : Int) + 1) = (k : Int) := ⟨(turn % ((bl.length : Int) + 1)).toNat, by rw [Int.toNat_of_nonneg (Int.emod_nonneg _ (by omega))]⟩
  have hk1 : k ≤ bl.length := by have := Int.emod_lt_of_pos turn (show 0 < (bl.length : Int) + 1 by omega); omega
  have c := bring_any turn ((bl.length : Int) + 1) ht (by omega) (by omega)
  rw [hk] at c
  have C := Lib.hid c
  have hb120 : bl.length ≤ 120 := by omega
  have DBL := Lib.hid dbl
  clear c hk hlen hbl' hbl hb1 own1 B3 B4 B24 x2 dbl s2
  go_upto_region 6 with (go_at_call 27; with_reducible refine (C.out _).mono ?_; rintro e w5 ⟨rfl, rfl⟩)
  obtain ⟨A3, hA3⟩ : ∃ A3, (if cap2 = k then A2 else A2.map (·.add (k * 2))) = A3 := ⟨_, rfl⟩
  have hs2 := own2.size
  have hk2 : k ≤ cap2 := by omega
  have pd : Prs w4 A3 (bl.drop k) := by rw [← hA3]; exact own2.prs.drop hs2 k
  have pt : Prs w4 A2 (bl.take k) := own2.prs.take k
  have HA3 := Lib.hid hA3
  clear hA3
  refine wp_region_openI [1, 2, 3, 5, 6, 7] [⟨some 44, .move (.tmp 7), _, _, _, _⟩, ⟨some 45, .move (.tmp 8), _, _, _, _⟩, ⟨some 46, .slice 40 (.tmp 44) (some (.tmp 45)) none none, _, _, _, _⟩, ⟨some 48, .move (.tmp 7), _, _, _, _⟩, ⟨some 49, .move (.tmp 8), _, _, _, _⟩, ⟨some 50, .slice 40 (.tmp 48) none (some (.tmp 49)) none, _, _, _, _⟩] w4.heap.size w4 (Below.refl _ _) (by kernel_rfl) rfl (by kernel_rfl) (by simp) (by kernel_rfl) (by kernel_rfl) ?_
  repeat (first
      | go_big_quiet_skip
      | (go_big_quiet_want; (first
          | (with_reducible refine quiet_drop (o := ⟨some 46, .slice 40 (.tmp 44) (some (.tmp 45)) none none, _, _, _, _⟩) (.tmp 44) (.tmp 45) rfl A2 A3 bl.length cap2 k (bl.length - k) rfl rfl hk1 HA3.out rfl ?_)
          | (with_reducible refine quiet_front (o := ⟨some 50, .slice 40 (.tmp 48) none (some (.tmp 49)) none, _, _, _, _⟩) (.tmp 48) (.tmp 49) rfl A2 bl.length cap2 k rfl rfl hk2 ?_)); simp only [Act.put, List.setIfInBounds_toArray, List.set_cons_succ, List.set_cons_zero]; go_big_quiet_on)
      | (go_big_quiet_want; go_big_quiet_op; first | go_big_quiet_on | ((with_reducible refine ⟨_, fun _ _ => rfl, ?_⟩); go_big_quiet_on)))
  refine wpQuiet_nil ?_
  have S1 : Below w4.heap.size w4 (w4.drew.alloc (.cells #[] 38)) := ((Below.refl w4.heap.size w4).drew).alloc (Nat.le_refl _) _
  have own0 := POwn.new_ w4.drew (Nat.le_refl w4.heap.size)
  have pd1 := pd.below S1 (Nat.le_refl _)
  refine stepH (f := 3) (i := 0) (o := ⟨some 43, .buildSlice 40 0 #[], _, _, _, _⟩) (by kernel_rfl) rfl rfl (fun K hK => wp_new40 rfl (hK _ _ S1 ?_))
  simp only [Act.put, List.setIfInBounds_toArray, List.set_cons_succ, List.set_cons_zero]
  rw [show w4.drew.heap.size = w4.heap.size from rfl]
  clear hK
  refine stepH (f := 2) (i := 4) (o := ⟨some 47, .call { callee := .builtin .append, args := #[.tmp 43, .tmp 46], argTypes := #[40, 40] }, _, _, _, _⟩) (by kernel_rfl) rfl rfl (fun K hK => wp_append_p (.tmp 43) (.tmp 46) rfl w4.heap.size (some ⟨w4.heap.size, 0, none⟩) 0 [] 0 rfl rfl own0 A3 (bl.length - k) (cap2 - k) (bl.drop k) rfl (List.length_drop) pd1 (by rw [List.length_drop, List.length_nil]; omega) (by simp) ?_)
  intro A5 cap5 q1 w5 hq1 own5 B5
  have S5 := S1.trans B5
  have hq1l : q1.length ≤ 120 := by rw [hq1.out, List.nil_append, List.length_drop]; omega
  have pt5 := pt.below S5 (Nat.le_refl _)
  refine hK _ _ S5 ?_
  simp only [Act.put, List.setIfInBounds_toArray, List.set_cons_succ, List.set_cons_zero]
  clear hK
  refine stepH (f := 1) (i := 8) (o := ⟨some 51, .call { callee := .builtin .append, args := #[.tmp 47, .tmp 50], argTypes := #[40, 40] }, _, _, _, _⟩) (by kernel_rfl) rfl rfl (fun K hK => wp_append_p (.tmp 47) (.tmp 50) rfl w4.heap.size A5 cap5 q1 q1.length rfl rfl own5 A2 k cap2 (bl.take k) rfl (by rw [List.length_take]; omega) pt5 (by rw [List.length_take]; omega) S5.size ?_)
  intro A4 cap4 rl w6 hrl own4 B6
  have S6 := S5.trans B6
  refine hK _ _ S6 ?_
  simp only [Act.put, List.setIfInBounds_toArray, List.set_cons_succ, List.set_cons_zero]
  clear hK
  refine stepH (f := 0) (i := 9) (o := ⟨some 9, .assign (.tmp 51), _, _, _, _⟩) (by kernel_rfl) rfl rfl (fun K hK => wp_assign (.tmp 51) (.slice A4 rl.length cap4) rfl rfl (hK _ _ S6 ?_))
  simp only [Act.put, List.setIfInBounds_toArray, List.set_cons_succ, List.set_cons_zero]
  clear hK
  refine wpAnyH_done (by kernel_rfl) (calm_normal ?_) _
  have hrl' : rl = bl.drop k ++ bl.take k := by rw [hrl.out, hq1.out]; rfl
  have frl : Fit64 rl := by rw [hrl']; exact fit64_append (fit64_drop fbl k) (fit64_take fbl k)
  have drl : dots rl = dots bl := by rw [hrl', dots_turn]
  have lrl : rl.length ≤ 120 := by rw [hrl', List.length_append, List.length_drop, List.length_take]; omega
  have DRL := Lib.hid drl
  clear hrl' drl hrl hq1 own5 B5 B6 pd pd1 pt pt5 own0 S1 S5 hq1l hk1 hk2
  go_wp2
  go_loopw [10] (fun i wr => ∃ j : Nat, j ≤ rl.length ∧ i = .int .i64 j ∧ POwn wr w4.heap.size A4 cap4 (swp rl j) ∧ Below w4.heap.size w4 wr) (fun i _ => rl.length - (intOf i).toNat)
  case atStart => exact ⟨0, by omega, rfl, own4, S6⟩
  case round =>
    obtain ⟨j, hj, rfl, own, hb⟩ := hrel
    have hsz := hb.size
    have hsl := swp_length rl j
    by_cases hlt : j < rl.length
    · have hjs : j < (swp rl j).length := by omega
      obtain ⟨g, rfl, hgb, hglt⟩ := own.at_ (by omega)
      obtain ⟨e0, e1⟩ := own.cell hjs
      obtain ⟨⟨p, q⟩, hpq⟩ : ∃ z, z = (swp rl j)[j] := ⟨_, rfl⟩
      have hget : (swp rl j).getD j (0, 0) = (p, q) := by rw [List.getD_eq_getElem?_getD, List.getElem?_eq_getElem hjs, ← hpq]; rfl
      rw [← hpq] at e0 e1
      simp only at e0 e1
      clear hpq
      have i0 : (0 : Int) ≤ (j : Int) := by omega
      have i1 : (j : Int) < (rl.length : Int) := by omega
      by_cases h3 : j % 3 = 1
      · have hset : swp rl (j + 1) = (swp rl j).set j (q, p) := by
          rw [swp, if_pos h3, hget]
        have Hset := Lib.hid hset
        have t1 : ((j : Int) % 3 == 1) = true := by simp; omega
        have t2 : ((j : Int).tmod 3 == 1) = true := by rw [Int.tmod_eq_emod_of_nonneg i0]; exact t1
        clear hset hget h3
        go_upto_region 11 with (fail)
        refine wp_region_tail 13 wr.heap.size wr (Below.refl _ _) (by kernel_rfl) (by kernel_rfl) ?_
        simp only [List.take_succ_cons, List.take_zero, List.drop_succ_cons, List.drop_zero]
        repeat (first
            | go_big_quiet_skip
            | (go_big_quiet_want; (first
                | (with_reducible refine quiet_i64A (o := ⟨some 67, .load 2 (.tmp 66), _, _, _, _⟩) (.tmp 66) rfl ⟨g, j * 2 + 1, none⟩ rfl hglt _ e1 ?_)
                | (with_reducible refine quiet_i64A (o := ⟨some 72, .load 2 (.tmp 71), _, _, _, _⟩) (.tmp 71) rfl ⟨g, j * 2, none⟩ rfl hglt _ e0 ?_)); simp only [Act.put, List.setIfInBounds_toArray, List.set_cons_succ, List.set_cons_zero]; go_big_quiet_on)
            | (go_big_quiet_want; go_big_quiet_op; first | go_big_quiet_on | ((with_reducible refine ⟨_, fun _ _ => rfl, ?_⟩); go_big_quiet_on)))
        refine wpQuiet_nil ?_
        intro w' hb'
        have own' := own.below hb'
        have th : w'.there g (j * 2) (#[.int .i64 q, .int .i64 p] : Array Value).size := own'.there hjs
        have si : (Try.prog.info? 38).map (·.size) = some (#[.int .i64 q, .int .i64 p] : Array Value).size := sized38
        have so : (#[.int .i64 q, .int .i64 p] : Array Value).all (·.oneCell') = true := by simp [Value.oneCell']
        go_wp2_with (with_reducible refine wpList_store_mid (op := ⟨none, .store 38 (.tmp 74) (.tmp 73), _, _, _, _⟩) rfl 38 (.tmp 74) (.tmp 73) rfl g (j * 2) #[.int .i64 q, .int .i64 p] rfl rfl th si so ?_)
        go_roundw
        case rel =>
          refine ⟨j + 1, by omega, by go_num, ?_, ?_⟩
          · rw [Hset.out]
            exact own'.set2 j hjs (q, p)
          · exact ((hb.trans (hb'.mono hsz)).setCell hgb _).setCell hgb _
        case measure => simp [intOf]; omega
      · have hset : swp rl (j + 1) = swp rl j := by rw [swp, if_neg h3]
        have Hset := Lib.hid hset
        have t1 : ((j : Int) % 3 == 1) = false := by simp; omega
        have t2 : ((j : Int).tmod 3 == 1) = false := by rw [Int.tmod_eq_emod_of_nonneg i0]; exact t1
        clear hset hget h3
        go_wp2
        go_roundw
        case rel => exact ⟨j + 1, by omega, by go_num, by rw [Hset.out]; exact own, hb⟩
        case measure => simp [intOf]; omega
    · obtain ⟨fin, hfin⟩ : ∃ fin, fin = swp rl j := ⟨_, rfl⟩
      have ffin : Fit64 fin := by rw [hfin]; exact fit64_swp frl j
      have dfin : dots fin = dots bl := by rw [hfin, swp_dots, DRL.out]
      rw [← hfin] at own hsl
      clear hfin
      obtain ⟨d, e, hde⟩ : ∃ d e, fit (ofI (dots bl)) = (d, e) := ⟨_, _, rfl⟩
      have hde' := hde
      rw [← dfin] at hde'
      obtain ⟨d1, e1, h1⟩ : ∃ d e, fit (ofI (dots x)) = (d, e) := ⟨_, _, rfl⟩
      obtain ⟨d2, e2, h2⟩ : ∃ d e, fit (ofI (dots y)) = (d, e) := ⟨_, _, rfl⟩
      have way : e1 = 50 ∨ (e1 = 0 ∧ e2 = 50) ∨ (e1 = 0 ∧ e2 = 0 ∧ In64 d1 ∧ In64 d2 ∧ fit (ofI (d1 + d2)) = (d, e)) := by
        rcases fit_way h1 with ⟨a1, a2, a3⟩ | a1
        · rcases fit_way h2 with ⟨c1, c2, c3⟩ | c1
          · exact .inr (.inr ⟨a1, c1, a2, c2, by rw [← ofI_add, a3, c3, ofI_add, ← DBL.out, hde]⟩)
          · exact .inr (.inl ⟨a1, c1⟩)
        · exact .inl a1
      have H := Lib.hid hde
      have H' := Lib.hid hde'
      have own2' := (own2.below hb).prs
      have p1 := r1.below Bw4 (Nat.le_refl _)
      have p2 := r2.below Bw4 (Nat.le_refl _)
      have p1' := p1.below hb (Nat.le_refl _)
      have p2' := p2.below hb (Nat.le_refl _)
      have pfin := own.prs
      have B := Below.refl wr.heap.size wr
      have S := Nat.le_refl wr.heap.size
      have m1 : bl.length ≤ 1000 := by omega
      have m2 : rl.length ≤ 1000 := by omega
      have m3 : n1 ≤ 1000 := by omega
      have m4 : n2 ≤ 1000 := by omega
      have Bw := Bw4.trans (hb.mono Bw4.size)
      clear hde hde' dfin DRL DBL own2 own4 own p1 p2 S6 hb Bw4 r1 r2
      go_upto_region 16 with (first
        | (go_at_call 21; with_reducible refine (dot_at B S rfl m1 fbl (own2'.below B S) H.out).mono ?_; rintro z w7 ⟨rfl, B⟩)
        | (go_at_call 21; with_reducible refine (dot_at B S hsl m2 ffin (pfin.below B S) H'.out).mono ?_; rintro z w8 ⟨rfl, B⟩))
      clear H'
      rcases way with rfl | ⟨rfl, rfl⟩ | ⟨rfl, rfl, i1, i2, h3⟩
      all_goals
        have H1 := Lib.hid h1
        have H2 := Lib.hid h2
        clear h1 h2
        try (have H3 := Lib.hid h3; clear h3)
        go_wp2_with (first
          | (go_at_call 21; with_reducible refine (dot_at B S k1 m3 f1 (p1'.below B S) H1.out).mono ?_; rintro z w9 ⟨rfl, B⟩)
          | (go_at_call 21; with_reducible refine (dot_at B S k2 m4 f2 (p2'.below B S) H2.out).mono ?_; rintro z w10 ⟨rfl, B⟩)
          | (go_at_call 15; with_reducible refine (plus_at B S i1 i2 H3.out).mono ?_; rintro z w11 ⟨rfl, B⟩))
        go_ret
        exact ⟨rfl, Bw.trans (B.mono Bw.size)⟩
end Go.Proofs.Ytiiccjnfggojmaa

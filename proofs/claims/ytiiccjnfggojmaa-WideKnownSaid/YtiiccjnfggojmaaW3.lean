/-
  WALKS, 3: Mul, Neg, is, comparing, Int.
-/
import Derived.Test.YtiiccjnfggojmaaW2
import Derived.Test.YtiiccjnfggojmaaMath2
import Derived.Laws.BitsLemmas
namespace Go.Proofs.Ytiiccjnfggojmaa
open Go.RowKit Wd

theorem wi_eq (n : Int) : IntKind.i64.wrap n = wi n := IntKind.wrap_i64 n
theorem wi_lo (n : Int) : -9223372036854775808 ≤ wi n := by unfold wi; omega
theorem wi_hi (n : Int) : wi n ≤ 9223372036854775807 := by unfold wi; omega
theorem w64_eq (n : Int) : wrap64 n = wi n := by unfold wrap64 wi; rfl
theorem sign_wrap (n : Int) (w : World) : Calls Try.prog 36 #[.int .i64 (wrap64 n)] w fun e w' => e = .returned (.int .u64 (sg (wi n))) ∧ w = w' := by
  rw [w64_eq]; exact sign_any _ w (wi_lo n) (wi_hi n)
theorem and_none (u : Int) (h0 : 0 ≤ u) (h1 : u < 18446744073709551616) : bits .and .u64 u 0 = 0 := by
  obtain ⟨n, rfl⟩ := Int.eq_ofNat_of_zero_le h0
  have := bits_and_u64_nat n 0 (by omega) (by omega)
  rw [Nat.and_zero] at this
  exact this
theorem and_full (u : Int) (h0 : 0 ≤ u) (h1 : u < 18446744073709551616) : bits .and .u64 u 18446744073709551615 = u := by
  obtain ⟨n, rfl⟩ := Int.eq_ofNat_of_zero_le h0
  have h := bits_and_u64_nat n 18446744073709551615 (by omega) (by omega)
  rw [show (18446744073709551615 : Nat) = 2 ^ 64 - 1 from rfl, Nat.and_two_pow_sub_one_eq_mod, Nat.mod_eq_of_lt (by omega)] at h
  exact h
theorem and_sg (u n : Int) (h0 : 0 ≤ u) (h1 : u < 18446744073709551616) : bits .and .u64 u (sg n) = if n < 0 then u else 0 := by
  unfold sg
  split
  · exact and_full u h0 h1
  · exact and_none u h0 h1
/-- the three parts of a product, as Mul makes them. -/
theorem mul_made (a b : Int) (ha : -9223372036854775808 ≤ a) (ha' : a ≤ 9223372036854775807) (hb : -9223372036854775808 ≤ b) (hb' : b ≤ 9223372036854775807) (hi : Int)
    (e : hi = IntKind.u64.wrap ((a % 18446744073709551616) * (b % 18446744073709551616) / 18446744073709551616 - IntKind.u64.wrap (bits .and .u64 (a % 18446744073709551616) (sg b) + bits .and .u64 (b % 18446744073709551616) (sg a)))) :
    #[.int .u64 ((a % 18446744073709551616) * (b % 18446744073709551616) % 18446744073709551616), .int .u64 hi, .int .u64 (sg (wi hi))] = wc (ofI (a * b)) := by
  obtain ⟨e1, e2, e3⟩ := mul_parts a b ha ha' hb hb'
  have eh : hi = pb (ofI (a * b)) := by
    rw [e, e2, and_sg _ _ (by omega) (by omega), and_sg _ _ (by omega) (by omega), IntKind.wrap_u64, IntKind.wrap_u64]
    generalize (a % 18446744073709551616) * (b % 18446744073709551616) / 18446744073709551616 = q
    split <;> split <;> omega
  unfold wc
  rw [eh, ← e3, e1]
set_option maxHeartbeats 400000 in
theorem mul_any (a b : Int) (w : World) (ha : -9223372036854775808 ≤ a) (ha' : a ≤ 9223372036854775807) (hb : -9223372036854775808 ≤ b) (hb' : b ≤ 9223372036854775807) :
    Calls Try.prog 12 #[.int .i64 a, .int .i64 b] w fun e w' => e = .returned (.agg (wc (ofI (a * b)))) ∧ Below w.heap.size w w' := by
  obtain ⟨u, hu⟩ : ∃ u, u = a % 18446744073709551616 := ⟨_, rfl⟩
  obtain ⟨v, hv⟩ : ∃ v, v = b % 18446744073709551616 := ⟨_, rfl⟩
  have eu : IntKind.u64.wrap a = u := by rw [IntKind.wrap_u64, hu]
  have ev : IntKind.u64.wrap b = v := by rw [IntKind.wrap_u64, hv]
  have u0 : 0 ≤ u := by omega
  have u1 : u < 18446744073709551616 := by omega
  have v0 : 0 ≤ v := by omega
  have v1 : v < 18446744073709551616 := by omega
  obtain ⟨hi, hh⟩ : ∃ hi, hi = IntKind.u64.wrap (u * v / 18446744073709551616 - IntKind.u64.wrap (bits .and .u64 u (sg b) + bits .and .u64 v (sg a))) := ⟨_, rfl⟩
  have hm := mul_made a b ha ha' hb hb' hi (by rw [← hu, ← hv]; exact hh)
  rw [← hu, ← hv] at hm
  have Hh := Lib.hid hh
  have Hm := Lib.hid hm
  clear hu hv hh hm
  go_enter Try.func12, Try.ntmps12
  go_wp2_with (first
    | (go_at_call 35; refine (mul64_any u v _ u0 u1 v0 v1).mono ?_; rintro e w' ⟨rfl, rfl⟩)
    | (go_at_call 36; refine (sign_any b _ hb hb').mono ?_; rintro e w' ⟨rfl, rfl⟩)
    | (go_at_call 36; refine (sign_any a _ ha ha').mono ?_; rintro e w' ⟨rfl, rfl⟩)
    | (go_at_call 36; refine (sign_wrap _ _).mono ?_; rintro e w' ⟨rfl, rfl⟩))
  rw [← Hh.out]
  exact end24 rfl w.heap.size 24 _ rfl (Blk.new _ _ _) rfl rfl ⟨by rw [Hm.out], (Below.refl _ _).alloc (Nat.le_refl _) _⟩

/-- a sum of two, whose parts stand as arrays. -/
def boxes2 (w : World) (x : X) : World := (w.alloc (.cells (wc x) 24)).alloc (.cells (wc (ofI 0)) 24)
theorem boxes2_size (w : World) (x : X) : (boxes2 w x).heap.size = w.heap.size + 1 + 1 := by simp [boxes2]
theorem boxes2_below (w : World) (x : X) : Below w.heap.size w (boxes2 w x) := ((Below.refl _ _).alloc (Nat.le_refl _) _).alloc (by simp) _
theorem boxes2_1 (w : World) (x : X) : Blk (boxes2 w x) w.heap.size 24 (wc x) := (Blk.new _ _ _).alloc _
theorem boxes2_2 (w : World) (x : X) : Blk (boxes2 w x) (w.heap.size + 1) 24 (wc (ofI 0)) := by
  have h := Blk.new (w.alloc (.cells (wc x) 24)) 24 (wc (ofI 0))
  unfold boxes2
  simpa using h
theorem wc_one : #[.int .u64 1, .int .u64 0, .int .u64 0] = wc (ofI 1) := wc_of 1 (by decide) (by decide)
theorem xor_max (p : Int) (h0 : 0 ≤ p) (h1 : p < 18446744073709551616) : bits .xor .u64 IntKind.u64.max p = 18446744073709551615 - p := by
  obtain ⟨n, rfl⟩ := Int.eq_ofNat_of_zero_le h0
  have h := u64_xor_nat 18446744073709551615 n (by omega) (by omega)
  have e : (BitVec.allOnes 64 ^^^ BitVec.ofNat 64 n).toNat = 18446744073709551615 - n := by
    rw [BitVec.allOnes_xor, BitVec.toNat_not, BitVec.toNat_ofNat, Nat.mod_eq_of_lt (by omega)]
  rw [BitVec.toNat_xor, BitVec.toNat_allOnes, BitVec.toNat_ofNat, Nat.mod_eq_of_lt (a := n) (by omega)] at e
  have e' : 18446744073709551615 ^^^ n = 18446744073709551615 - n := e
  rw [e'] at h
  have hm : IntKind.u64.max = ((18446744073709551615 : Nat) : Int) := rfl
  rw [hm, h]
  omega
theorem neg_cells (x : X) : #[.int .u64 (bits .xor .u64 IntKind.u64.max (pa x)), .int .u64 (bits .xor .u64 IntKind.u64.max (pb x)), .int .u64 (bits .xor .u64 IntKind.u64.max (pc x)), .int .u64 1, .int .u64 0, .int .u64 0] = wc (~~~x) ++ wc (ofI 1) := by
  obtain ⟨a, b, c⟩ := not_parts x
  rw [← wc_one, xor_max _ (pa_lo x) (pa_hi x), xor_max _ (pb_lo x) (pb_hi x), xor_max _ (pc_lo x) (pc_hi x), ← a, ← b, ← c]
  rfl
set_option maxHeartbeats 400000 in
theorem neg_any (x : X) (w : World) :
    Calls Try.prog 20 #[.agg (wc x)] w fun e w' => e = .returned (.agg (wc (-x))) ∧ Below w.heap.size w w' := by
  obtain ⟨w0, hw0⟩ : ∃ w0, w0 = boxes2 w x := ⟨_, rfl⟩
  have h1 := boxes2_1 w x
  have h2 := boxes2_2 w x
  have hb := boxes2_below w x
  have hs := boxes2_size w x
  rw [← hw0] at h1 h2 hb hs
  have Hw0 := Lib.hid hw0
  have Hs := Lib.hid hs
  clear hw0 hs
  have us : IntKind.u64.signed = false := rfl
  obtain ⟨x0, x1, x2⟩ := wc_cell h1
  have fz := fun i => h1.free i
  have f0 := fz 0
  have f1 := fz 1
  have f2 := fz 2
  have lt1 := h1.lt
  go_enter Try.func20, Try.ntmps20
  go_upto_region 1 with (fail)
  rw [wc_zero, show (w.alloc (.cells (wc x) 24)).alloc (.cells (wc (ofI 0)) 24) = w0 from Hw0.out.symm]
  go_wp2_with (first
    | (go_at_call 40; rw [neg_cells x]; refine (sum2 _ _ (~~~x) (ofI 1) _ (by simp) (pair_wides _ _ _)).mono ?_; rintro e w1 ⟨rfl, hb1⟩; have h2' := (h2.alloc (.cells (wc (~~~x) ++ wc (ofI 1)) 24)).below hb1 (by have := h2.lt; simp; omega))
    | (with_reducible refine wpList_store_row (o := ⟨none, .store 24 (.tmp 2) (.tmp 15), _, _, _, _⟩) rfl 24 (.tmp 2) (.tmp 15) rfl (w.heap.size + 1) (wc (~~~x + ofI 1)) rfl rfl _ _ h2'.eq (wc_info _) rfl (wc_all _) ?_))
  have hsz := hb.size
  exact end24 rfl (w.heap.size + 1) 24 _ rfl (h2'.row _) rfl rfl ⟨by rw [not_one], below_setRow ((hb.alloc hsz _).trans (hb1.mono (by simp; omega))) (by omega) _⟩

theorem bnez {a : Int} (h : (a != 0) = false) : a = 0 := by simpa using h
theorem beq_dec (a b : Int) : (a == b) = decide (a = b) := by
  by_cases h : a = b <;> simp [h]
theorem is_any (n e m f : Int) (w : World) : Calls Try.prog 41 #[.int .i64 n, .int .i64 e, .int .i64 m, .int .i64 f] w fun r w' => r = .returned (.bool (decide (n = m ∧ e = f))) ∧ w = w' := by
  go_enter Try.func41, Try.ntmps41
  go_wp2
  all_goals (go_ret; simp_all [beq_dec])
theorem nan_i (n : Int) (w : World) : Calls Try.prog 44 #[.int .i64 n] w fun r w' => r = .returned (.bool false) ∧ w = w' := by
  go_enter Try.func44, Try.ntmps44
  go_wp2
  go_ret
  simp
theorem nan_u (n : Int) (w : World) : Calls Try.prog 45 #[.int .u64 n] w fun r w' => r = .returned (.bool false) ∧ w = w' := by
  go_enter Try.func45, Try.ntmps45
  go_wp2
  go_ret
  simp
theorem cmp_i (a b : Int) (w : World) : Calls Try.prog 38 #[.int .i64 a, .int .i64 b] w fun r w' => r = .returned (.int .i64 (cm a b)) ∧ w = w' := by
  unfold cm
  go_enter Try.func38, Try.ntmps38
  go_wp2_with (go_at_call 44; refine (nan_i _ _).mono ?_; rintro e w' ⟨rfl, rfl⟩)
  all_goals (go_ret; exact ⟨rfl, rfl⟩)
theorem cmp_u (a b : Int) (w : World) : Calls Try.prog 39 #[.int .u64 a, .int .u64 b] w fun r w' => r = .returned (.int .i64 (cm a b)) ∧ w = w' := by
  unfold cm
  go_enter Try.func39, Try.ntmps39
  go_wp2_with (go_at_call 45; refine (nan_u _ _).mono ?_; rintro e w' ⟨rfl, rfl⟩)
  all_goals (go_ret; exact ⟨rfl, rfl⟩)
def or3 (a b c : Int) : Int := if a ≠ 0 then a else if b ≠ 0 then b else c
theorem or_any (a b c : Int) (cap g : Nat) (w : World) (hg : Blk w g 3 #[.int .i64 a, .int .i64 b, .int .i64 c]) :
    Calls Try.prog 37 #[.slice (some ⟨g, 0, none⟩) 3 cap] w fun r w' => r = .returned (.int .i64 (or3 a b c)) ∧ w = w' := by
  have c0 := hg.cell 0
  have c1 := hg.cell 1
  have c2 := hg.cell 2
  have x0 : (#[.int .i64 a, .int .i64 b, .int .i64 c] : Array Value)[0]? = some (.int .i64 a) := rfl
  have x1 : (#[.int .i64 a, .int .i64 b, .int .i64 c] : Array Value)[1]? = some (.int .i64 b) := rfl
  have x2 : (#[.int .i64 a, .int .i64 b, .int .i64 c] : Array Value)[2]? = some (.int .i64 c) := rfl
  rw [x0] at c0
  rw [x1] at c1
  rw [x2] at c2
  clear x0 x1 x2
  go_enter Try.func37, Try.ntmps37
  go_wp2
  go_loop [8] (fun i => ∃ k : Nat, k ≤ 3 ∧ i = .int .i64 k ∧ (1 ≤ k → a = 0) ∧ (2 ≤ k → b = 0) ∧ (3 ≤ k → c = 0)) (fun i => 3 - (intOf i).toNat)
  case atStart => exact ⟨0, by omega, rfl, by omega, by omega, by omega⟩
  case round =>
    obtain ⟨k, hk, rfl, h1, h2, h3⟩ := hrel
    obtain rfl | rfl | rfl | rfl : k = 0 ∨ k = 1 ∨ k = 2 ∨ k = 3 := by omega
    all_goals go_wp2
    all_goals first
      | (go_ret; refine ⟨?_, rfl⟩; unfold or3; simp_all; done)
      | (go_round
         case rel =>
           first
             | exact ⟨1, by omega, by go_num, fun _ => bnez (by assumption), by omega, by omega⟩
             | exact ⟨2, by omega, by go_num, fun _ => h1 (by omega), fun _ => bnez (by assumption), by omega⟩
             | exact ⟨3, by omega, by go_num, fun _ => h1 (by omega), fun _ => h2 (by omega), fun _ => bnez (by assumption)⟩
         case measure => simp [intOf])
theorem eq_parts (x y : X) : (decide (x = y)) = (decide (pa x = pa y) && (decide (pb x = pb y) && decide (pc x = pc y))) := by
  by_cases h : x = y
  · subst h; simp
  · by_cases h1 : pa x = pa y
    · by_cases h2 : pb x = pb y
      · by_cases h3 : pc x = pc y
        · exact absurd (ext_parts h1 h2 h3) h
        · simp [h, h3]
      · simp [h, h2]
    · simp [h, h1]
@[go_sem] theorem eq24 (x y : X) (w : World) : (Op.equalIn 10000 24 (.agg (wc x)) (.agg (wc y))).run Try.prog w = .ok (decide (x = y)) w := by
  have u3 := Try.underlying22
  have a3 := Try.isAgg22
  have z3 := Try.sizeOf22
  have hS : Try.prog.underlying 24 = some (.struct (Try.prog.fieldsOf 24)) := by kernel_rfl
  have hp : Try.prog.stoodInHeld 24 = false := by kernel_rfl
  rw [eq_parts]
  unfold wc
  rw [show (10000 : Nat) = 9999 + 1 from rfl, run_equalIn_agg w 9999 24 _ _ hS hp]
  simp only [Program.fieldsOf, Try.underlying24]
  go_simp
  by_cases h1 : pa x = pa y <;> by_cases h2 : pb x = pb y <;> by_cases h3 : pc x = pc y <;> simp [h1, h2, h3]
@[go_sem] theorem eq38 (a b c d : Int) (w : World) : (Op.equalIn 10000 38 (.agg #[.int .i64 a, .int .i64 b]) (.agg #[.int .i64 c, .int .i64 d])).run Try.prog w = .ok (decide (a = c ∧ b = d)) w := by
  have u3 := Try.underlying2
  have a3 := Try.isAgg2
  have z3 := Try.sizeOf2
  rw [show (10000 : Nat) = 9999 + 1 from rfl, Op.equalIn]
  simp only [Sem.run_bind, run_underlying Try.underlying38, Result.andThen_ok]
  simp only [Std.Legacy.Range.forIn_eq_forIn_range', Std.Legacy.Range.size, Nat.sub_zero, Nat.add_sub_cancel, Nat.div_one, List.range'_succ, List.range'_zero, List.forIn_cons, List.forIn_nil]
  go_simp
  by_cases h1 : a = c <;> by_cases h2 : b = d <;> simp [h1, h2]
set_option maxHeartbeats 400000 in
@[go_sem] theorem eq52 (x y : X) (w : World) : (Op.equalIn 10000 52 (.agg (sc x)) (.agg (sc y))).run Try.prog w = .ok (decide (x = y)) w := by
  have u3 := Try.underlying22
  have a3 := Try.isAgg22
  have z3 := Try.sizeOf22
  have e : decide (x = y) = decide (dg x 0 = dg y 0 ∧ dg x 1 = dg y 1 ∧ dg x 2 = dg y 2 ∧ dg x 3 = dg y 3 ∧ dg x 4 = dg y 4 ∧ dg x 5 = dg y 5) := by
    apply decide_eq_decide.2
    constructor
    · intro h; subst h; exact ⟨rfl, rfl, rfl, rfl, rfl, rfl⟩
    · rintro ⟨h0, h1, h2, h3, h4, h5⟩
      refine ext_dg fun i hi => ?_
      obtain rfl | rfl | rfl | rfl | rfl | rfl : i = 0 ∨ i = 1 ∨ i = 2 ∨ i = 3 ∨ i = 4 ∨ i = 5 := by omega
      all_goals assumption
  rw [e]
  unfold sc
  rw [show (10000 : Nat) = 9999 + 1 from rfl, Op.equalIn]
  simp only [Sem.run_bind, run_underlying Try.underlying52, Result.andThen_ok]
  simp only [Std.Legacy.Range.forIn_eq_forIn_range', Std.Legacy.Range.size, Nat.sub_zero, Nat.add_sub_cancel, Nat.div_one, List.range'_succ, List.range'_zero, List.forIn_cons, List.forIn_nil]
  go_simp
  generalize dg x 0 = x0
  generalize dg x 1 = x1
  generalize dg x 2 = x2
  generalize dg x 3 = x3
  generalize dg x 4 = x4
  generalize dg x 5 = x5
  by_cases h0 : x0 = dg y 0
  · by_cases h1 : x1 = dg y 1
    · by_cases h2 : x2 = dg y 2
      · by_cases h3 : x3 = dg y 3
        · by_cases h4 : x4 = dg y 4
          · by_cases h5 : x5 = dg y 5 <;> simp [h0, h1, h2, h3, h4, h5]
          · simp [h0, h1, h2, h3, h4]
        · simp [h0, h1, h2, h3]
      · simp [h0, h1, h2]
    · simp [h0, h1]
  · simp [h0]
end Go.Proofs.Ytiiccjnfggojmaa

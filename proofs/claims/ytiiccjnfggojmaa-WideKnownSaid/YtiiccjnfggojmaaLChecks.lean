/-
  WALKS, 13: the reference: Plus, Minus, Times. THE LAW WideChecks, walked.
-/
import Derived.Test.YtiiccjnfggojmaaW12
import Derived.Outline
namespace Go.Proofs.Ytiiccjnfggojmaa
open Go.RowKit Wd

theorem radd_at {x y z : X} {b : Nat} {w0 w : World} (hb : Below b w0 w) (hs : b ≤ w0.heap.size) (hz : x + y = z) : Calls Try.prog 33 #[.agg (sc x), .agg (sc y)] w fun e w' => e = .returned (.agg (sc z)) ∧ Below b w0 w' := by
  subst hz; exact callIn hb hs (radd_any x y w)
theorem rneg_at {n m : Int} {b : Nat} {w0 w : World} (hb : Below b w0 w) (hs : b ≤ w0.heap.size) (h : -n = m) : Calls Try.prog 34 #[.agg (sc (ofI n))] w fun e w' => e = .returned (.agg (sc (ofI m))) ∧ Below b w0 w' := by
  subst h; exact callIn hb hs (rneg_of n w)
theorem rint_at {x : X} {n e : Int} {b : Nat} {w0 w : World} (hb : Below b w0 w) (hs : b ≤ w0.heap.size) (hx : fit x = (n, e)) : Calls Try.prog 28 #[.agg (sc x)] w fun r w' => r = .returned (.tuple #[.int .i64 n, .int .i64 e]) ∧ Below b w0 w' := by
  have c := callIn hb hs (rint_any x w); rw [hx] at c; exact c
theorem rmul_at {a c : Int} {b : Nat} {w0 w : World} (hb : Below b w0 w) (hs : b ≤ w0.heap.size) (ha : In64 a) (hc : In64 c) : Calls Try.prog 32 #[.int .i64 a, .int .i64 c] w fun e w' => e = .returned (.agg (sc (ofI (a * c)))) ∧ Below b w0 w' := callIn hb hs (rmul_any a c w ha hc)
theorem minus_at {a c n e : Int} {b : Nat} {w0 w : World} (hb : Below b w0 w) (hs : b ≤ w0.heap.size) (ha : In64 a) (hc : In64 c) (hx : fit (ofI (a - c)) = (n, e)) : Calls Try.prog 23 #[.int .i64 a, .int .i64 c] w fun r w' => r = .returned (.tuple #[.int .i64 n, .int .i64 e]) ∧ Below b w0 w' := by
  have h := callIn hb hs (minus_any a c w ha.1 ha.2 hc.1 hc.2); rw [hx] at h; exact h
set_option maxHeartbeats 400000 in
theorem rplus_at {a c n e : Int} {b : Nat} {w0 w : World} (hb : Below b w0 w) (hs : b ≤ w0.heap.size) (ha : In64 a) (hc : In64 c) (hx : fit (ofI (a + c)) = (n, e)) : Calls Try.prog 22 #[.int .i64 a, .int .i64 c] w fun r w' => r = .returned (.tuple #[.int .i64 n, .int .i64 e]) ∧ Below b w0 w' := by
  have B := hb
  go_enter Try.func22, Try.ntmps22
  go_wp2_with (first
    | (go_at_call 42; with_reducible refine (rsix_at B hs ha).mono ?_; rintro e w1 ⟨rfl, B⟩)
    | (go_at_call 42; with_reducible refine (rsix_at B hs hc).mono ?_; rintro e w2 ⟨rfl, B⟩)
    | (go_at_call 33; with_reducible refine (radd_at B hs (ofI_add a c)).mono ?_; rintro e w3 ⟨rfl, B⟩)
    | (go_at_call 28; with_reducible refine (rint_at B hs hx).mono ?_; rintro e w4 ⟨rfl, B⟩))
  go_ret2
  exact ⟨rfl, B⟩
set_option maxHeartbeats 400000 in
theorem rminus_at {a c n e : Int} {b : Nat} {w0 w : World} (hb : Below b w0 w) (hs : b ≤ w0.heap.size) (ha : In64 a) (hc : In64 c) (hx : fit (ofI (a - c)) = (n, e)) : Calls Try.prog 24 #[.int .i64 a, .int .i64 c] w fun r w' => r = .returned (.tuple #[.int .i64 n, .int .i64 e]) ∧ Below b w0 w' := by
  have B := hb
  have hz : ofI a + ofI (-c) = ofI (a - c) := by rw [ofI_add]; rfl
  go_enter Try.func24, Try.ntmps24
  go_wp2_with (first
    | (go_at_call 42; with_reducible refine (rsix_at B hs ha).mono ?_; rintro e w1 ⟨rfl, B⟩)
    | (go_at_call 42; with_reducible refine (rsix_at B hs hc).mono ?_; rintro e w2 ⟨rfl, B⟩)
    | (go_at_call 34; with_reducible refine (rneg_at B hs rfl).mono ?_; rintro e w5 ⟨rfl, B⟩)
    | (go_at_call 33; with_reducible refine (radd_at B hs hz).mono ?_; rintro e w3 ⟨rfl, B⟩)
    | (go_at_call 28; with_reducible refine (rint_at B hs hx).mono ?_; rintro e w4 ⟨rfl, B⟩))
  go_ret2
  exact ⟨rfl, B⟩
set_option maxHeartbeats 400000 in
theorem rtimes_at {a c n e : Int} {b : Nat} {w0 w : World} (hb : Below b w0 w) (hs : b ≤ w0.heap.size) (ha : In64 a) (hc : In64 c) (hx : fit (ofI (a * c)) = (n, e)) : Calls Try.prog 25 #[.int .i64 a, .int .i64 c] w fun r w' => r = .returned (.tuple #[.int .i64 n, .int .i64 e]) ∧ Below b w0 w' := by
  have B := hb
  go_enter Try.func25, Try.ntmps25
  go_wp2_with (first
    | (go_at_call 32; with_reducible refine (rmul_at B hs ha hc).mono ?_; rintro e w1 ⟨rfl, B⟩)
    | (go_at_call 28; with_reducible refine (rint_at B hs hx).mono ?_; rintro e w4 ⟨rfl, B⟩))
  go_ret2
  exact ⟨rfl, B⟩
set_option maxRecDepth 100000 in
set_option maxHeartbeats 2000000 in
theorem checks_any (a b : Int) (w : World) (ha : In64 a) (hb : In64 b) :
    Calls Try.prog 5 #[.int .i64 a, .int .i64 b] w fun e w' => e = .returned (.bool true) ∧ Below w.heap.size w w' := by
  have B := Below.refl w.heap.size w
  have S := Nat.le_refl w.heap.size
  obtain ⟨n1, e1, h1⟩ : ∃ n e, fit (ofI (a + b)) = (n, e) := ⟨_, _, rfl⟩
  obtain ⟨n2, e2, h2⟩ : ∃ n e, fit (ofI (a - b)) = (n, e) := ⟨_, _, rfl⟩
  obtain ⟨n3, e3, h3⟩ : ∃ n e, fit (ofI (a * b)) = (n, e) := ⟨_, _, rfl⟩
  have H1 := Lib.hid h1
  have H2 := Lib.hid h2
  have H3 := Lib.hid h3
  clear h1 h2 h3
  go_enter Try.func5, Try.ntmps5
  go_wp2_with (first
    | (go_at_call 15; with_reducible refine (plus_at B S ha hb H1.out).mono ?_; rintro e w1 ⟨rfl, B⟩)
    | (go_at_call 22; with_reducible refine (rplus_at B S ha hb H1.out).mono ?_; rintro e w2 ⟨rfl, B⟩)
    | (go_at_call 23; with_reducible refine (minus_at B S ha hb H2.out).mono ?_; rintro e w3 ⟨rfl, B⟩)
    | (go_at_call 24; with_reducible refine (rminus_at B S ha hb H2.out).mono ?_; rintro e w4 ⟨rfl, B⟩)
    | (go_at_call 17; with_reducible refine (times_at B S ha hb H3.out).mono ?_; rintro e w5 ⟨rfl, B⟩)
    | (go_at_call 25; with_reducible refine (rtimes_at B S ha hb H3.out).mono ?_; rintro e w6 ⟨rfl, B⟩)
    | (go_at_call 19; with_reducible refine (works_at B S).mono ?_; rintro e w7 ⟨rfl, B⟩))
  go_ret
  exact ⟨rfl, B⟩
end Go.Proofs.Ytiiccjnfggojmaa

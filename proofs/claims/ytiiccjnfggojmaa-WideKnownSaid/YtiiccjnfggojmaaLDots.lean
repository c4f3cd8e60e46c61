/-
  THE LAW WideDots, walked.
-/
import Derived.Test.YtiiccjnfggojmaaW15
namespace Go.Proofs.Ytiiccjnfggojmaa
open Go.RowKit Wd

theorem dot_at {A : Option Addr} {cap m : Nat} {l : List (Int × Int)} {d e : Int} {b : Nat} {w0 w : World} (hb : Below b w0 w) (hs : b ≤ w0.heap.size) (hm : l.length = m) (hl : m ≤ 1000) (hf : Fit64 l) (hr : Prs w A l) (hx : fit (ofI (dots l)) = (d, e)) :
    Calls Try.prog 21 #[.slice A m cap] w fun r w' => r = .returned (.tuple #[.int .i64 d, .int .i64 e]) ∧ Below b w0 w' := by
  subst hm
  have c := callIn hb hs (dot_any A cap l w hl hf hr)
  rw [hx] at c
  exact c
theorem rdot_at {A : Option Addr} {cap m : Nat} {l : List (Int × Int)} {d e : Int} {b : Nat} {w0 w : World} (hb : Below b w0 w) (hs : b ≤ w0.heap.size) (hm : l.length = m) (hl : m ≤ 1000) (hf : Fit64 l) (hr : Prs w A l) (hx : fit (ofI (dots l)) = (d, e)) :
    Calls Try.prog 26 #[.slice A m cap] w fun r w' => r = .returned (.tuple #[.int .i64 d, .int .i64 e]) ∧ Below b w0 w' := by
  subst hm
  have c := callIn hb hs (rdot_any A cap l w hl hf hr)
  rw [hx] at c
  exact c
theorem run_ne38 (p q : Int) (w : World) : (binOp .neq 38 (.agg #[.int .i64 p, .int .i64 q]) (.agg #[.int .i64 p, .int .i64 q])).run Try.prog w = .ok (.bool false) w := by rw [run_neq_struct, eq38]; simp [Result.andThen]
theorem guard38 (op : BinOp) (x y : Operand) (u v : Array Value) (w : World) : (eqGuard op 38 x y (.agg u) (.agg v)).run Try.prog w = .ok () w := run_eqGuard_agg w op 38 x y _ _ (by kernel_rfl)
theorem quiet_same38 {b : Nat} {w0 : World} {o : Oper} {a : Act} {K : Act → Prop} (x y : Operand) (t : TypeId) (ho : o.op = .binOp .neq 38 x y t) (p q : Int) (hx : a.eval x = .agg #[.int .i64 p, .int .i64 q]) (hy : a.eval y = .agg #[.int .i64 p, .int .i64 q])
    (hk : K (a.put o.dst (.bool false))) : o.quiet Try.prog a (Below b w0) K := by
  refine quiet_of_exec (fun w => ?_) hk
  unfold execOp
  simp only [ho, hx, hy, Sem.run_bind, guard38, run_ne38, Result.andThen_ok, Sem.run_pure]
theorem run_pair38 (w : World) (ad : Addr) (p q : Int) (h0 : w.cell? ad = some (.int .i64 p)) (h1 : w.cell? ⟨ad.block, ad.off + 1, none⟩ = some (.int .i64 q)) :
    (Instr.loadAt 38 (.pointer (some ad))).run Try.prog w = .ok (.agg #[.int .i64 p, .int .i64 q]) w := by
  have u := Try.underlying38
  have u2 := Try.underlying2
  have a3 := Try.isAgg38
  have z3 := Try.sizeOf38
  have b3 := Try.isAgg2
  have y3 := Try.sizeOf2
  go_simp
theorem quiet_pair {b : Nat} {w0 : World} {o : Oper} {a : Act} {K : Act → Prop} (x : Operand) (ho : o.op = .load 38 x) (ad : Addr) (hx : a.eval x = .pointer (some ad)) (hg : ad.block < b) (p q : Int)
    (h0 : w0.cell? ad = some (.int .i64 p)) (h1 : w0.cell? ⟨ad.block, ad.off + 1, none⟩ = some (.int .i64 q)) (hk : K (a.put o.dst (.agg #[.int .i64 p, .int .i64 q]))) : o.quiet Try.prog a (Below b w0) K := by
  refine ⟨_, fun w hw => ?_, hk⟩
  have e0 : w.cell? ad = some (.int .i64 p) := (hw.cell (p := ad) hg).trans h0
  have e1 : w.cell? ⟨ad.block, ad.off + 1, none⟩ = some (.int .i64 q) := (hw.cell (p := ⟨ad.block, ad.off + 1, none⟩) hg).trans h1
  unfold Oper.quietAt execOp
  simp only [ho, hx, Sem.run_bind, Sem.run_pure, run_pair38 w ad p q e0 e1, Result.andThen_ok]
  exact ⟨rfl, rfl⟩
theorem cut60 (m : Nat) : ∃ n : Nat, n ≤ m ∧ n ≤ 60 ∧ (if (60 : Int) < (m : Int) then (60 : Int) else (m : Int)) = (n : Int) := by
  by_cases h : m ≤ 60
  · exact ⟨m, Nat.le_refl _, h, by rw [if_neg (by omega)]⟩
  · exact ⟨60, by omega, Nat.le_refl _, by rw [if_pos (by omega)]; rfl⟩
set_option maxHeartbeats 1000000 in
theorem dots_law (A : Option Addr) (cap : Nat) (l : List (Int × Int)) (w : World) (hlc : l.length ≤ cap) (hf : Fit64 l) (hr : Prs w A l) :
    Calls Try.prog 6 #[.slice A l.length cap] w fun e w' => e = .returned (.bool true) ∧ Below w.heap.size w w' := by
  obtain ⟨n, hn1, hn2, hif⟩ := cut60 l.length
  have hnc : (n : Int) ≤ (cap : Int) := by omega
  have hf1 := fit64_take hf n
  have hr1 := hr.take n
  have hk1 : (l.take n).length = n := by rw [List.length_take]; omega
  obtain ⟨r, hrr⟩ : ∃ r, r = l.take n := ⟨_, rfl⟩
  rw [← hrr] at hf1 hr1 hk1
  clear hrr hr hf
  obtain ⟨d, e, hde⟩ : ∃ d e, fit (ofI (dots r)) = (d, e) := ⟨_, _, rfl⟩
  have H := Lib.hid hde
  clear hde
  have hr0 := hr1.below ((Below.refl w.heap.size w).alloc (Nat.le_refl _) (.cells #[] 38)) (Nat.le_refl _)
  go_enter Try.func6, Try.ntmps6
  go_wp2_with (at_builtin; refine wpList_append_p rfl (.tmp 14) (.tmp 15) rfl w.heap.size (some ⟨w.heap.size, 0, none⟩) 0 [] 0 rfl rfl (POwn.new_ w (Nat.le_refl _)) A n cap r rfl hk1 hr0 (by simp; omega) (by simp) ?_; intro A1 cap1 l1 w1 hl1 own1 B1)
  have e1 : r = l1 := by rw [hl1.out]; rfl
  subst e1
  have B0 : Below w.heap.size w w1 := ((Below.refl _ _).alloc (Nat.le_refl _) _).trans B1
  have hr1w := hr1.below B0 (Nat.le_refl _)
  have B := Below.refl w1.heap.size w1
  have S := Nat.le_refl w1.heap.size
  have hl60 : r.length ≤ 1000 := by omega
  have hn60 : n ≤ 1000 := by omega
  clear hl1 B1 hr0 hif
  go_wp2_with (first
    | (go_at_call 21; with_reducible refine (dot_at B S rfl hl60 hf1 own1.prs H.out).mono ?_; rintro x w2 ⟨rfl, B⟩)
    | (go_at_call 26; with_reducible refine (rdot_at B S hk1 hn60 hf1 (hr1w.below B S) H.out).mono ?_; rintro x w3 ⟨rfl, B⟩))
  go_loopw [8] (fun i wr => ∃ k : Nat, k ≤ n ∧ i = .int .i64 k ∧ Below w1.heap.size w1 wr) (fun i _ => n - (intOf i).toNat)
  case atStart => exact ⟨0, by omega, rfl, B⟩
  case round =>
    obtain ⟨k, hk, rfl, hb⟩ := hrel
    have hsz := hb.size
    by_cases hlt : k < n
    · have hkr : k < r.length := by omega
      have own := own1.below hb
      have hrw := hr1w.below hb S
      obtain ⟨a, rfl, hab, c0, c1⟩ := hrw k hkr
      obtain ⟨g, rfl, hgb, hglt⟩ := own.at_ (by omega)
      obtain ⟨e0, e1⟩ := own.cell hkr
      obtain ⟨⟨p, q⟩, hpq⟩ : ∃ x, x = r[k] := ⟨_, rfl⟩
      rw [← hpq] at c0 c1 e0 e1
      rw [add1] at c1
      simp only at c0 c1 e0 e1
      have i0 : (0 : Int) ≤ (k : Int) := by omega
      have i1 : (k : Int) < (r.length : Int) := by omega
      have i2 : (k : Int) < (n : Int) := by omega
      have ab0 : (a.add (k * 2)).block < wr.heap.size := by rw [addb]; exact hab
      clear hpq own hrw B hab
      go_upto_region 8 with (fail)
      refine wp_region_below_lit wr.heap.size wr (Below.refl _ _) (by kernel_rfl) (by kernel_rfl) ?_
      repeat (first
        | go_big_quiet_skip
        | (go_big_quiet_want; (first
            | (with_reducible refine quiet_pair (o := ⟨some 36, .load 38 (.tmp 35), _, _, _, _⟩) (.tmp 35) rfl ⟨g, k * 2, none⟩ rfl hglt p q e0 e1 ?_)
            | (with_reducible refine quiet_pair (o := ⟨some 40, .load 38 (.tmp 39), _, _, _, _⟩) (.tmp 39) rfl (a.add (k * 2)) rfl ab0 p q c0 c1 ?_)
            | (with_reducible refine quiet_same38 (o := ⟨some 41, .binOp .neq 38 (.tmp 36) (.tmp 40) 38, _, _, _, _⟩) (.tmp 36) (.tmp 40) 38 rfl p q rfl rfl ?_)); simp only [Act.put, List.setIfInBounds_toArray, List.set_cons_succ, List.set_cons_zero]; go_big_quiet_on)
        | (go_big_quiet_want; go_big_quiet_op; first | go_big_quiet_on | ((with_reducible refine ⟨_, fun _ _ => rfl, ?_⟩); go_big_quiet_on)))
      refine wpQuiet_nil ?_
      intro w' hb'
      go_wp2
      go_roundw
      case rel => exact ⟨k + 1, by omega, by go_num, hb.trans (hb'.mono hsz)⟩
      case measure => simp [intOf]; omega
    · have B := hb
      go_wp2_with (go_at_call 19; with_reducible refine (works_at B S).mono ?_; rintro x w5 ⟨rfl, B⟩)
      go_ret
      exact ⟨rfl, B0.trans (B.mono B0.size)⟩
end Go.Proofs.Ytiiccjnfggojmaa

/-
  WALK of the law CrcLinear.
-/
import Derived.Test.YtahooodkklgeiaaDoorL1
import Derived.Deep.RegionHeld3
namespace Go.Proofs.YtahooodkklgeiaaDoor
open Go.RowKit Crc
theorem run_min4 {P : Program} {w : World} (ts : Array TypeId) (t : TypeId) (x y z u n : Int) (hx : n ≤ x) (hy : n ≤ y) (hz : n ≤ z) (hu : n ≤ u) (h : n = x ∨ n = y ∨ n = z ∨ n = u) :
    (Builtin.min_ ts t #[.int .i64 x, .int .i64 y, .int .i64 z, .int .i64 u]).run P w = .ok (.int .i64 n) w := by
  have e : (if u < (if z < (if y < x then y else x) then z else (if y < x then y else x)) then u else (if z < (if y < x then y else x) then z else (if y < x then y else x))) = n := by
    split <;> (try split) <;> (try split) <;> omega
  simp [Builtin.min_, Builtin.min2]
  exact e
theorem mix3_snoc (a b c : List Nat) (x y z : Nat) (h1 : a.length = b.length) (h2 : a.length = c.length) : mix3 (a ++ [x]) (b ++ [y]) (c ++ [z]) = mix3 a b c ++ [x ^^^ y ^^^ z] := by
  induction a generalizing b c with
  | nil =>
    obtain rfl : b = [] := List.length_eq_zero_iff.1 (by simpa using h1.symm)
    obtain rfl : c = [] := List.length_eq_zero_iff.1 (by simpa using h2.symm)
    rfl
  | cons p a ih =>
    match b, c, h1, h2 with
    | q :: b, r :: c, h1, h2 =>
      simp only [List.cons_append, mix3]
      rw [ih b c (by simpa using h1) (by simpa using h2)]
theorem Rd.blk {w : World} {b : Nat} {ad : Addr} {l : List Nat} (h : Rd w b (some ad) l) (hl : 0 < l.length) (k : Nat) : (ad.add k).block < b := by
  obtain ⟨ad', h1, h2, _⟩ := h.2 hl
  injection h1 with h1
  rw [block_add, h1]
  exact h2
set_option maxHeartbeats 400000 in
theorem linear_walk (capa : Nat) (A : Option Addr) (la : List Nat) (capb : Nat) (Bd : Option Addr) (lb : List Nat) (capc : Nat) (Cd : Option Addr) (lc : List Nat) (w : World) (ha : la.length ≤ capa) (hma : la.length ≤ 9223372036854775807) (hra : Rd w w.heap.size A la)
    (hb : lb.length ≤ capb) (hmb : lb.length ≤ 9223372036854775807) (hrb : Rd w w.heap.size Bd lb) (hc : lc.length ≤ capc) (hmc : lc.length ≤ 9223372036854775807) (hrc : Rd w w.heap.size Cd lc) (hT : HasTab w) :
    Calls Tryd.prog 8 #[.slice A la.length capa, .slice Bd lb.length capb, .slice Cd lc.length capc] w fun e w' => e = .returned (.bool true) ∧ Below w.heap.size w w' := by
  have h0 := hT.pos
  obtain ⟨n, na, nb, nc, n3, hn⟩ : ∃ n : Nat, n ≤ la.length ∧ n ≤ lb.length ∧ n ≤ lc.length ∧ n ≤ 300 ∧ (n = la.length ∨ n = lb.length ∨ n = lc.length ∨ n = 300) :=
    ⟨min (min (min la.length lb.length) lc.length) 300, by omega, by omega, by omega, by omega, by omega⟩
  have hmin := fun (ts : Array TypeId) (t : TypeId) (W : World) => run_min4 (P := Tryd.prog) (w := W) ts t la.length lb.length lc.length 300 n (by omega) (by omega) (by omega) (by omega) (by omega)
  clear hn
  go_enter Tryd.func8, Tryd.ntmps8
  go_wp2
  go_loopw [8, 9] (fun d i wr => ∃ (k : Nat) (A' : Option Addr) (cap' : Nat) (ld : List Nat), k ≤ n ∧ i = .int .i64 k ∧ d = .slice A' ld.length cap' ∧ Hid (ld = mix3 (la.take k) (lb.take k) (lc.take k)) ∧ Hid (ld.length = k) ∧ Own wr w.heap.size A' cap' ld ∧ Below w.heap.size w wr) (fun _ i _ => n - (intOf i).toNat)
  case atStart => exact ⟨0, none, 0, [], by omega, rfl, rfl, rfl, rfl, Own.nil _ _, Below.refl _ _⟩
  case round =>
    obtain ⟨k, A', cap', ld, hk, rfl, rfl, hld, hlen, hown, hbl⟩ := hrel
    have hll : ld.length ≤ 300 := by have := hlen.out; omega
    have hsz := hbl.size
    by_cases hlt : k < n
    · obtain ⟨ad, ca, rfl, hca, hta, hcella⟩ := (hra.below hbl (Nat.le_refl _)).at_ (show k < la.length by omega)
      obtain ⟨bd, cb, rfl, hcb, htb, hcellb⟩ := (hrb.below hbl (Nat.le_refl _)).at_ (show k < lb.length by omega)
      obtain ⟨cd, cc, rfl, hcc, htc, hcellc⟩ := (hrc.below hbl (Nat.le_refl _)).at_ (show k < lc.length by omega)
      have b1 := hra.blk (by omega) k
      have b2 := hrb.blk (by omega) k
      have b3 := hrc.blk (by omega) k
      have Hta := Lib.hid hta
      have Htb := Lib.hid htb
      have Htc := Lib.hid htc
      clear hta htb htc
      have x1 := u8_xor_nat ca cb hca hcb
      have hab : ca ^^^ cb < 256 := Nat.xor_lt_two_pow (n := 8) hca hcb
      have x2 := u8_xor_nat (ca ^^^ cb) cc hab hcc
      have habc : ca ^^^ cb ^^^ cc < 256 := Nat.xor_lt_two_pow (n := 8) hab hcc
      obtain ⟨q, hq⟩ : ∃ q, q = ca ^^^ cb ^^^ cc := ⟨_, rfl⟩
      rw [← hq] at x2 habc
      have Hq := Lib.hid hq
      clear hq
      obtain ⟨p, hp⟩ : ∃ p, p = ca ^^^ cb := ⟨_, rfl⟩
      rw [← hp] at x1 x2 hab
      clear hp
      have i1 : (k : Int) < (la.length : Int) := by omega
      have i2 : (k : Int) < (lb.length : Int) := by omega
      have i3 : (k : Int) < (lc.length : Int) := by omega
      go_wp2
      go_region_held3 (fun w' => w'.cell? (ad.add k) = some (.int .u8 (ca : Int)) ∧ w'.cell? (bd.add k) = some (.int .u8 (cb : Int)) ∧ w'.cell? (cd.add k) = some (.int .u8 (cc : Int)))
        (first
          | go_keep
          | (go_split_ands
             refine ⟨?_, ?_, ?_⟩
             · (rw [hb2.cell b1]; assumption)
             · (rw [hb2.cell b2]; assumption)
             · (rw [hb2.cell b3]; assumption)))
        ((refine step_append_b (by rfl) _ _ (by rfl) w.heap.size A' cap' ld (by rfl) (hown.alloc _).drew (wr.heap.size + 1) (some ⟨wr.heap.size, 0, none⟩) 1 1 [q] (by rfl) (by rfl) (Rd.new _ _ q _ rfl habc).drew (by simp; omega) (by simp; omega) ?_; intro A2 cap2 l2 w2 hl2 hown2 hb2 _))
      go_wp2
      go_roundw
      case rel =>
        refine ⟨k + 1, A2, cap2, l2, by omega, by go_num, rfl, ?_, ?_, hown2, hbl.trans (((Below.refl _ _).alloc hsz _).drew.trans hb2)⟩
        · have e := hl2.out
          rw [hld.out, Hq.out] at e
          show l2 = _
          rw [e, Hta.out, Htb.out, Htc.out, mix3_snoc _ _ _ _ _ _ (by simp only [List.length_take]; omega) (by simp only [List.length_take]; omega)]
        · have e := hl2.out
          have e2 := hlen.out
          show l2.length = k + 1
          rw [e, List.length_append, e2]; rfl
      case measure => simp [intOf]; omega
    · have ek : k = n := by omega
      have hT' := hT.below hbl h0
      have hm : ld = mix3 (la.take n) (lb.take n) (lc.take n) := by rw [← ek]; exact hld.out
      obtain ⟨sa, hsa⟩ : ∃ x, x = sum (la.take n) := ⟨_, rfl⟩
      obtain ⟨sb, hsb⟩ : ∃ x, x = sum (lb.take n) := ⟨_, rfl⟩
      obtain ⟨sc, hsc⟩ : ∃ x, x = sum (lc.take n) := ⟨_, rfl⟩
      have hsd : sum ld = sa ^^^ sb ^^^ sc := by rw [hm, sum_mix3 _ _ _ (by simp only [List.length_take]; omega) (by simp only [List.length_take]; omega), hsa, hsb, hsc]
      have c1 : ∀ w', Below wr.heap.size wr w' → Calls Tryd.prog 12 #[.slice A' ld.length cap'] w' fun e w'' => e = .returned (.int .u32 (N (sa ^^^ sb ^^^ sc))) ∧ Below wr.heap.size wr w'' := fun w' hb' => by
        have c := sum_any _ cap' A' ld w' (by omega) (hown.rd.below hb' (Nat.le_refl _)) (hT'.below hb' hT'.pos)
        rw [hsd] at c
        exact c.mono fun _ _ ⟨he, hw⟩ => ⟨he, by rw [← hw]; exact hb'⟩
      have cut : ∀ (D : Option Addr) (l : List Nat) (cap : Nat) (x : Reg), n ≤ l.length → Rd w w.heap.size D l → x = sum (l.take n) → ∀ w', Below wr.heap.size wr w' → Calls Tryd.prog 12 #[.slice D n cap] w' fun e w'' => e = .returned (.int .u32 (N x)) ∧ Below wr.heap.size wr w'' := fun D l cap x hl hrd hx w' hb' => by
        have hlen : (l.take n).length = n := by rw [List.length_take]; omega
        have c := sum_any _ cap D (l.take n) w' (by omega) ((hrd.take n).below (hbl.trans (hb'.mono hsz)) (Nat.le_refl _)) (hT'.below hb' hT'.pos)
        rw [hlen, ← hx] at c
        exact c.mono fun _ _ ⟨he, hw⟩ => ⟨he, by rw [← hw]; exact hb'⟩
      have c2 := cut A la capa sa na hra hsa
      have c3 := cut Bd lb capb sb nb hrb hsb
      have c4 := cut Cd lc capc sc nc hrc hsc
      have c5 : ∀ w', Below wr.heap.size wr w' → Calls Tryd.prog 17 #[] w' fun e w'' => e = .returned (.bool true) ∧ Below wr.heap.size wr w'' := fun w' hb' =>
        (works_any w' (hT'.below hb' hT'.pos)).mono fun _ _ ⟨he, hw⟩ => ⟨he, hb'.trans (hw.mono hb'.size)⟩
      have C1 := Lib.hid c1
      have C2 := Lib.hid c2
      have C3 := Lib.hid c3
      have C4 := Lib.hid c4
      have C5 := Lib.hid c5
      clear c1 c2 c3 c4 c5 cut hsd hsa hsb hsc hm ek
      have j1 : (n : Int) ≤ (capa : Int) := by omega
      have j2 : (n : Int) ≤ (capb : Int) := by omega
      have j3 : (n : Int) ≤ (capc : Int) := by omega
      go_wp2
      refine wp_region_below_lit wr.heap.size wr (Below.refl _ _) (by kernel_rfl) (by kernel_rfl) ?_
      repeat (first | go_big_quiet_skip | (go_big_quiet_want; go_big_quiet_op; first | go_big_quiet_on | ((with_reducible refine ⟨_, fun _ _ => rfl, ?_⟩); go_big_quiet_on) | go_big_quiet_call ((intro hb'; with_reducible (first | exact C1.out _ hb' | exact C2.out _ hb' | exact C3.out _ hb' | exact C4.out _ hb' | exact C5.out _ hb')))))
      refine wpQuiet_nil ?_
      intro w' hb'
      go_wp2
      go_ret
      exact ⟨rfl, hbl.trans (hb'.mono hsz)⟩
end Go.Proofs.YtahooodkklgeiaaDoor

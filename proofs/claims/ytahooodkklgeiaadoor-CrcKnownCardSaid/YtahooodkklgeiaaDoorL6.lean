/-
  WALK of the law CrcKnown.
-/
import Derived.Test.YtahooodkklgeiaaDoorL2
import Derived.Test.YtahooodkklgeiaaDoorL1
namespace Go.Proofs.YtahooodkklgeiaaDoor
open Go.RowKit Crc

def zeros (k : Nat) : List Nat := List.replicate k 0
def ones (k : Nat) : List Nat := List.replicate k 255
def ups (k : Nat) : List Nat := List.range k
def downs (k : Nat) : List Nat := (List.range k).map fun i => 31 - i
theorem zeros_succ (k : Nat) : zeros (k + 1) = zeros k ++ [0] := List.replicate_succ'
theorem ones_succ (k : Nat) : ones (k + 1) = ones k ++ [255] := List.replicate_succ'
theorem ups_succ (k : Nat) : ups (k + 1) = ups k ++ [k] := List.range_succ
theorem downs_succ (k : Nat) : downs (k + 1) = downs k ++ [31 - k] := by unfold downs; rw [List.range_succ, List.map_append]; rfl
theorem zeros_len (k : Nat) : (zeros k).length = k := by simp [zeros]
theorem ones_len (k : Nat) : (ones k).length = k := by simp [ones]
theorem ups_len (k : Nat) : (ups k).length = k := by simp [ups]
theorem downs_len (k : Nat) : (downs k).length = k := by simp [downs]
theorem sum_zeros : N (sum (zeros 32)) = 2324772522 := by decide +kernel
theorem sum_ones : N (sum (ones 32)) = 1655221059 := by decide +kernel
theorem sum_ups : N (sum (ups 32)) = 1188919630 := by decide +kernel
theorem sum_downs : N (sum (downs 32)) = 289397596 := by decide +kernel
theorem join_0_9 (n : Nat) : N (join (BitVec.ofNat 32 0) (BitVec.ofNat 32 9) n) = 9 := by
  unfold join
  rw [stN_zero, BitVec.zero_xor]
  decide

/-- two rows never share a block. -/
def Ap (a b : Option Nat) : Prop := ∀ k, a = some k → b = some k → False
theorem Ap.symm {a b : Option Nat} (h : Ap a b) : Ap b a := fun k h1 h2 => h k h2 h1
theorem Own.apart {w w' : World} {base cap : Nat} {A : Option Addr} {l : List Nat} {row : Option Nat} (h : Own w base A cap l) (hg : w.grownBy w' row) (ha : Ap (Value.slice A l.length cap).ownBlock row) : Own w' base A cap l :=
  h.keep hg (by
    cases hv : (Value.slice A l.length cap).ownBlock with
    | none => exact .inl rfl
    | some k => exact .inr fun e => ha k hv e.symm)
theorem Own.newAp {w : World} {base cap : Nat} {A : Option Addr} {l : List Nat} {o n : Option Nat} (h : Own w base A cap l) (hn : n = o ∨ n = some w.heap.size) (ha : Ap (Value.slice A l.length cap).ownBlock o) : Ap (Value.slice A l.length cap).ownBlock n := by
  rcases hn with hn | hn
  · rw [hn]; exact ha
  · intro k h1 h2
    rw [hn] at h2
    have := (h.row k h1).2
    injection h2 with h2
    omega
theorem Own.others {w w' : World} {base cap : Nat} {A : Option Addr} {l : List Nat} {o n : Option Nat} (h : Own w base A cap l) (hg : Hid (w.grownBy w' o ∧ (n = o ∨ n = some w.heap.size))) (ha : Ap (Value.slice A l.length cap).ownBlock o) :
    Own w' base A cap l ∧ Ap (Value.slice A l.length cap).ownBlock n := ⟨h.apart hg.out.1 ha, h.newAp hg.out.2 ha⟩
theorem size_step {B : Nat} {v u : World} {o : Obj} (hb : Below B (v.alloc o) u) (h : B ≤ v.heap.size) : B ≤ u.heap.size := by
  have := hb.size
  simp at this
  omega
/-- a row and its number. -/
structure Row (w : World) (base : Nat) (A : Option Addr) (cap k : Nat) (l m : List Nat) : Prop where
  own : Own w base A cap l
  eq : l = m
  len : l.length = k

theorem sumsI (x : Int) (c : Nat) (y : Int) (h0 : 0 ≤ x) (h1 : x < 4294967296) (hy : y = (c : Int)) (hc : c < 256) (W : World) (hT : HasTab W) :
    Calls Tryd.prog 3 #[.int .u32 x, .slice (some ⟨W.heap.size, 0, none⟩) 1 1] (W.alloc (.cells #[.int .u8 y] 5)) fun e w' => e = .returned (.bool true) ∧ Below W.heap.size W w' := by
  have hb : Below W.heap.size W (W.alloc (.cells #[.int .u8 y] 5)) := (Below.refl _ _).alloc (Nat.le_refl _) _
  have hsz : (W.alloc (.cells #[.int .u8 y] 5)).heap.size = W.heap.size + 1 := by simp
  have wk := sums_walk (B x) 1 (some ⟨W.heap.size, 0, none⟩) [c] (W.alloc (.cells #[.int .u8 y] 5)) (by simp) (by simp) (by rw [hsz]; exact Rd.new W 5 c y hy hc) (hT.below hb hT.pos)
  rw [N_B x h0 h1] at wk
  exact wk.mono fun _ _ ⟨he, hw⟩ => ⟨he, hb.trans (hw.mono (by rw [hsz]; omega))⟩
theorem joinsI (x y n : Int) (h0 : 0 ≤ x) (h1 : x < 4294967296) (h2 : 0 ≤ y) (h3 : y < 4294967296) (h4 : -9223372036854775808 ≤ n) (h5 : n ≤ 9223372036854775807) (W : World) (hT : HasTab W) :
    Calls Tryd.prog 4 #[.int .u32 x, .int .u32 y, .int .i64 n] W fun e w' => e = .returned (.bool true) ∧ Below W.heap.size W w' := by
  have wk := joins_walk (B x) (B y) n W ⟨h4, h5⟩ hT
  rwa [N_B x h0 h1, N_B y h2 h3] at wk
theorem join09 (W : World) : Calls Tryd.prog 18 #[.int .u32 0, .int .u32 9, .int .i64 9223372036854775807] W fun e w' => e = .returned (.tuple #[.int .u32 9, .int .i64 0]) ∧ Below W.heap.size W w' := by
  have c := join_any (BitVec.ofNat 32 0) (BitVec.ofNat 32 9) 9223372036854775807 (Nat.le_refl _) W
  rw [join_0_9, show N (BitVec.ofNat 32 0) = 0 by decide, show N (BitVec.ofNat 32 9) = 9 by decide] at c
  exact c

set_option maxRecDepth 100000 in
set_option maxHeartbeats 1000000 in
theorem known_walk (w : World) (hT : HasTab w) :
    Calls Tryd.prog 10 #[] w fun e w' => e = .returned (.bool true) ∧ Below w.heap.size w w' := by
  have h0 := hT.pos
  go_enter Tryd.func10, Tryd.ntmps10
  go_wp2
  go_loopw [1, 2, 3, 4, 5] (fun v1 v2 v3 v4 i wr => ∃ (k : Nat) (A1 A2 A3 A4 : Option Addr) (c1 c2 c3 c4 : Nat) (l1 l2 l3 l4 : List Nat), k ≤ 32 ∧ i = .int .i64 k ∧ v1 = .slice A1 l1.length c1 ∧ v2 = .slice A2 l2.length c2 ∧ v3 = .slice A3 l3.length c3 ∧ v4 = .slice A4 l4.length c4 ∧
      Row wr w.heap.size A1 c1 k l1 (zeros k) ∧ Row wr w.heap.size A2 c2 k l2 (ones k) ∧ Row wr w.heap.size A3 c3 k l3 (ups k) ∧ Row wr w.heap.size A4 c4 k l4 (downs k) ∧
      Hid (Ap v1.ownBlock v2.ownBlock ∧ Ap v1.ownBlock v3.ownBlock ∧ Ap v1.ownBlock v4.ownBlock ∧ Ap v2.ownBlock v3.ownBlock ∧ Ap v2.ownBlock v4.ownBlock ∧ Ap v3.ownBlock v4.ownBlock) ∧ Below w.heap.size w wr) (fun _ _ _ _ i _ => 32 - (intOf i).toNat)
  case atStart =>
    refine ⟨0, none, none, none, none, 0, 0, 0, 0, [], [], [], [], by omega, rfl, rfl, rfl, rfl, rfl, ⟨Own.nil _ _, rfl, rfl⟩, ⟨Own.nil _ _, rfl, rfl⟩, ⟨Own.nil _ _, rfl, rfl⟩, ⟨Own.nil _ _, rfl, rfl⟩, ?_, Below.refl _ _⟩
    exact ⟨(fun k h => by cases h), (fun k h => by cases h), (fun k h => by cases h), (fun k h => by cases h), (fun k h => by cases h), (fun k h => by cases h)⟩
  case round =>
    obtain ⟨k, A1, A2, A3, A4, c1, c2, c3, c4, l1, l2, l3, l4, hk, rfl, rfl, rfl, rfl, rfl, r1, r2, r3, r4, hap, hb⟩ := hrel
    have hsz := hb.size
    have n1 := r1.len
    have n2 := r2.len
    have n3 := r3.len
    have n4 := r4.len
    have b1 : l1.length ≤ 32 := by omega
    have b2 : l2.length ≤ 32 := by omega
    have b3 : l3.length ≤ 32 := by omega
    have b4 : l4.length ≤ 32 := by omega
    clear n1 n2 n3 n4
    by_cases hlt : k < 32
    · go_wp2_with (first
        | (at_builtin; refine wpList_append_b rfl (.tmp 15) (.tmp 16) rfl w.heap.size A1 c1 l1 rfl (r1.own.alloc _) (wr.heap.size + 1) (some ⟨wr.heap.size, 0, none⟩) 1 1 [0] rfl rfl (Rd.new _ _ (0) _ rfl (by omega)) (by simp; omega) (by simp; omega) ?_; intro B1 d1 m1 w1 hm1 hown1 hb1 hg1; have p2 := (r2.own.alloc _).others hg1 hap.out.1.symm; have p3 := (r3.own.alloc _).others hg1 hap.out.2.1.symm; have p4 := (r4.own.alloc _).others hg1 hap.out.2.2.1.symm; have z1 := size_step hb1 hsz)
        | (at_builtin; refine wpList_append_b rfl (.tmp 18) (.tmp 19) rfl w.heap.size A2 c2 l2 rfl (p2.1.alloc _) (w1.heap.size + 1) (some ⟨w1.heap.size, 0, none⟩) 1 1 [255] rfl rfl (Rd.new _ _ (255) _ rfl (by omega)) (by simp; omega) (by simp; omega) ?_; intro B2 d2 m2 w2 hm2 hown2 hb2 hg2; have q1 := (hown1.alloc _).others hg2 p2.2.symm; have q3 := (p3.1.alloc _).others hg2 hap.out.2.2.2.1.symm; have q4 := (p4.1.alloc _).others hg2 hap.out.2.2.2.2.1.symm; have z2 := size_step hb2 z1)
        | (at_builtin; refine wpList_append_b rfl (.tmp 21) (.tmp 24) rfl w.heap.size A3 c3 l3 rfl (q3.1.alloc _) (w2.heap.size + 1) (some ⟨w2.heap.size, 0, none⟩) 1 1 [k] rfl rfl (Rd.new _ _ (k) _ (by omega) (by omega)) (by simp; omega) (by simp; omega) ?_; intro B3 d3 m3 w3 hm3 hown3 hb3 hg3; have s1 := (q1.1.alloc _).others hg3 p3.2.symm; have s2 := (hown2.alloc _).others hg3 q3.2.symm; have s4 := (q4.1.alloc _).others hg3 hap.out.2.2.2.2.2.symm; have z3 := size_step hb3 z2)
        | (at_builtin; refine wpList_append_b rfl (.tmp 26) (.tmp 30) rfl w.heap.size A4 c4 l4 rfl (s4.1.alloc _) (w3.heap.size + 1) (some ⟨w3.heap.size, 0, none⟩) 1 1 [31 - k] rfl rfl (Rd.new _ _ (31 - k) _ (by omega) (by omega)) (by simp; omega) (by simp; omega) ?_; intro B4 d4 m4 w4 hm4 hown4 hb4 hg4; have t1 := (s1.1.alloc _).others hg4 p4.2.symm; have t2 := (s2.1.alloc _).others hg4 q4.2.symm; have t3 := (hown3.alloc _).others hg4 s4.2.symm))
      go_roundw
      case rel =>
        refine ⟨k + 1, B1, B2, B3, B4, d1, d2, d3, d4, m1, m2, m3, m4, by omega, by go_num, rfl, rfl, rfl, rfl, ⟨t1.1, by rw [hm1.out, r1.eq, zeros_succ], by rw [hm1.out, List.length_append, r1.len]; rfl⟩, ⟨t2.1, by rw [hm2.out, r2.eq, ones_succ], by rw [hm2.out, List.length_append, r2.len]; rfl⟩, ⟨t3.1, by rw [hm3.out, r3.eq, ups_succ], by rw [hm3.out, List.length_append, r3.len]; rfl⟩, ⟨hown4, by rw [hm4.out, r4.eq, downs_succ], by rw [hm4.out, List.length_append, r4.len]; rfl⟩, ?_, ?_⟩
        · exact ⟨q1.2, s1.2, t1.2, s2.2, t2.2, t3.2⟩
        · exact (((((((hb.alloc hsz _).trans hb1).alloc z1 _).trans hb2).alloc z2 _).trans hb3).alloc z3 _).trans hb4
      case measure => simp [intOf]; omega
    · have ek : k = 32 := by omega
      have hTr := hT.below hb h0
      have e1 : N (sum l1) = 2324772522 := by rw [r1.eq, ek, sum_zeros]
      have e2 : N (sum l2) = 1655221059 := by rw [r2.eq, ek, sum_ones]
      have e3 : N (sum l3) = 1188919630 := by rw [r3.eq, ek, sum_ups]
      have e4 : N (sum l4) = 289397596 := by rw [r4.eq, ek, sum_downs]
      have c1' := sum_any _ c1 A1 l1 wr (by omega) r1.own.rd hTr
      have c2' := sum_any _ c2 A2 l2 wr (by omega) r2.own.rd hTr
      have c3' := sum_any _ c3 A3 l3 wr (by omega) r3.own.rd hTr
      have c4' := sum_any _ c4 A4 l4 wr (by omega) r4.own.rd hTr
      rw [e1] at c1'
      rw [e2] at c2'
      rw [e3] at c3'
      rw [e4] at c4'
      have C1 := Lib.hid c1'
      have C2 := Lib.hid c2'
      have C3 := Lib.hid c3'
      have C4 := Lib.hid c4'
      clear c1' c2' c3' c4' e1 e2 e3 e4 ek
      go_wp2_with fail
      refine C1.out.mono ?_
      rintro e w' ⟨rfl, rfl⟩
      go_wp2_with fail
      refine C2.out.mono ?_
      rintro e w' ⟨rfl, rfl⟩
      go_wp2_with fail
      refine C3.out.mono ?_
      rintro e w' ⟨rfl, rfl⟩
      go_wp2_with fail
      refine C4.out.mono ?_
      rintro e w' ⟨rfl, rfl⟩
      go_wp2_with fail
      obtain ⟨wo, rfl⟩ : ∃ wo : World, wo = wr := ⟨_, rfl⟩
      go_loopw [6] (fun i wr => ∃ k : Nat, k ≤ 256 ∧ i = .int .i64 k ∧ Below w.heap.size w wr) (fun i _ => 256 - (intOf i).toNat)
      case atStart => exact ⟨0, by omega, rfl, hb⟩
      case round =>
        obtain ⟨k, hk, rfl, hb'⟩ := hrel
        have hT' := hT.below hb' h0
        have hsz' := hb'.size
        by_cases hlt : k < 256
        · go_wp2_with fail
          refine (sumsI _ k _ (by omega) (by omega) (by omega) (by omega) _ hT').mono ?_
          rintro e w5 ⟨rfl, hb5⟩
          have hT5 := hT'.below hb5 hT'.pos
          go_wp2_with fail
          refine (joinsI _ _ _ (by omega) (by omega) (by omega) (by omega) (by omega) (by omega) _ hT5).mono ?_
          rintro e w6 ⟨rfl, hb6⟩
          go_wp2
          go_roundw
          case rel => exact ⟨k + 1, by omega, by go_num, (hb'.trans (hb5.mono hsz')).trans (hb6.mono (Nat.le_trans hsz' hb5.size))⟩
          case measure => simp [intOf]; omega
        · go_wp2_with fail
          refine (join_neg _ _ _ (by omega) _).mono ?_
          rintro e w' ⟨rfl, rfl⟩
          go_wp2_with fail
          refine (join09 _).mono ?_
          rintro e w5 ⟨rfl, hb5⟩
          have hT5 := hT'.below hb5 hT'.pos
          go_wp2_with fail
          refine (works_any _ hT5).mono ?_
          rintro e w6 ⟨rfl, hb6⟩
          go_wp2
          go_ret
          exact ⟨rfl, (hb'.trans (hb5.mono hsz')).trans (hb6.mono (Nat.le_trans hsz' hb5.size))⟩
end Go.Proofs.YtahooodkklgeiaaDoor

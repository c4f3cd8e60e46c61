/-
  WALK of the law CrcBurst.
-/
import Derived.Test.YtahooodkklgeiaaDoorL1
import Derived.Test.YtahooodkklgeiaaDoorBurst
import Derived.RegionTactic
import Derived.BigRegion
namespace Go.Proofs.YtahooodkklgeiaaDoor
open Go.RowKit Crc

theorem Own.set {w : World} {base cap g : Nat} {l : List Nat} (h : Own w base (some ⟨g, 0, none⟩) cap l) (j c : Nat) (hc : c < 256) : Own (w.setCell ⟨g, j, none⟩ (.int .u8 (c : Int))) base (some ⟨g, 0, none⟩) cap (l.set j c) := by
  refine ⟨fun x hx => ?_, ?_⟩
  · rcases List.mem_or_eq_of_mem_set hx with h1 | h1
    · exact h.1 x h1
    · rw [h1]; exact hc
  · have e := (h.2.stored j (.int .u8 (c : Int))).1
    rw [List.length_set, BV, List.map_set]
    exact e
theorem Own.free {w : World} {base cap g : Nat} {l : List Nat} (h : Own w base (some ⟨g, 0, none⟩) cap l) (j : Nat) : w.frozen? ⟨g, j, none⟩ = false := h.2.frozenAt j
theorem Own.cell {w : World} {base cap g : Nat} {l : List Nat} (h : Own w base (some ⟨g, 0, none⟩) cap l) {j : Nat} (hj : j < l.length) : w.cell? ⟨g, j, none⟩ = some (.int .u8 ((l.getD j 0 : Nat) : Int)) := by
  obtain ⟨g', h1, _, _, hc⟩ := h.at_ (by omega)
  injection h1 with h1
  injection h1 with h1
  subst h1
  exact hc j hj
theorem getD_lt {l : List Nat} (h : ∀ c ∈ l, c < 256) (j : Nat) : l.getD j 0 < 256 := by
  rw [List.getD_eq_getElem?_getD]
  by_cases hi : j < l.length
  · rw [List.getElem?_eq_getElem hi]; exact h _ (List.getElem_mem _)
  · rw [List.getElem?_eq_none (by omega)]; decide
theorem sumByte_N (s : Reg) (k : Nat) : (N s / 2 ^ (8 * k)) % 256 = ((sumByte s k : Nat) : Int) := by
  unfold N sumByte; simp

theorem bit_rem (t : Reg) (k : Nat) : ((N t / 2 ^ k).tmod 2 == 1) = t.getLsbD k := by
  have e : N t / 2 ^ k = ((t.toNat / 2 ^ k : Nat) : Int) := by unfold N; simp
  rw [e, Int.tmod_eq_emod_of_nonneg (Int.natCast_nonneg _), bit_getLsbD, Bool.eq_iff_iff, beq_iff_eq, decide_eq_true_iff]
  omega
theorem shl_or (x : Reg) (c : Nat) (hc : c < 256) : bits .or .u32 (N x * 256 % 4294967296) (c : Int) = N (x <<< 8 ||| BitVec.ofNat 32 c) := by
  have e : N x * 256 % 4294967296 = ((x.toNat * 256 % 4294967296 : Nat) : Int) := by unfold N; simp
  rw [e, u32_or_nat _ _ (Nat.mod_lt _ (by decide)) (by omega)]
  unfold N
  rw [BitVec.toNat_or, BitVec.toNat_shiftLeft, BitVec.toNat_ofNat, Nat.shiftLeft_eq, Nat.mod_eq_of_lt (show c < 2 ^ 32 by omega)]
set_option maxHeartbeats 1000000 in
theorem burst_walk (cap : Nat) (A : Option Addr) (l : List Nat) (t : Reg) (pos : Int) (w : World) (hl : l.length ≤ cap) (hm : l.length ≤ 9223372036854775807) (hr : Rd w w.heap.size A l)
    (hat : -9223372036854775808 ≤ pos ∧ pos ≤ 9223372036854775807) (hT : HasTab w) :
    Calls Tryd.prog 9 #[.slice A l.length cap, .int .u32 (N t), .int .i64 pos] w fun e w' => e = .returned (.bool true) ∧ Below w.heap.size w w' := by
  have h0 := hT.pos
  obtain ⟨n, hn1, hn2, hif⟩ : ∃ n : Nat, n ≤ l.length ∧ n ≤ 200 ∧ (if (200 : Int) < (l.length : Int) then (200 : Int) else (l.length : Int)) = (n : Int) := by
    by_cases h : l.length ≤ 200
    · exact ⟨l.length, Nat.le_refl _, h, by rw [if_neg (by omega)]⟩
    · exact ⟨200, by omega, Nat.le_refl _, by rw [if_pos (by omega)]; rfl⟩
  have hnc : (n : Int) ≤ (cap : Int) := by omega
  have Hat := Lib.hid hat
  clear hat
  go_enter Tryd.func9, Tryd.ntmps9
  go_wp2_with fail
  refine (works_any _ hT).mono ?_
  rintro e w1 ⟨rfl, hb1⟩
  have hT1 := hT.below hb1 h0
  have hr1 := (hr.take n).below hb1 (Nat.le_refl _)
  go_wp2_with fail
  refine (copy_n w.heap.size cap n A (l.take n) w1 (by rw [List.length_take]; omega) (by omega) hr1).mono ?_
  rintro e w2 ⟨A2, cap2, l2, hl2, rfl, hown2, hb2⟩
  have hk2 : l2.length = n := by rw [hl2.out, List.length_take]; omega
  have Hk2 := Lib.hid hk2
  have hk2' : l2.length ≤ 200 := by omega
  clear hk2 hif
  have hT2 := hT1.below hb2 hT1.pos
  go_wp2_with fail
  refine (sum_any _ _ _ l2 _ (by omega) hown2.rd hT2).mono ?_
  rintro e w' ⟨rfl, rfl⟩
  obtain ⟨s, hs⟩ : ∃ s, s = sum l2 := ⟨_, rfl⟩
  have Hs := Lib.hid hs
  rw [← hs]
  clear hs
  go_wp2_with fail
  go_loopw [8, 10] (fun v i wr => ∃ (k : Nat) (A' : Option Addr) (cap' : Nat) (l' : List Nat), k ≤ 4 ∧ i = .int .i64 k ∧ v = .slice A' l'.length cap' ∧ Hid (l' = l2 ++ sumBytes s k) ∧ Own wr w1.heap.size A' cap' l' ∧ Below w1.heap.size w1 wr) (fun _ i _ => 4 - (intOf i).toNat)
  case atStart => exact ⟨0, A2, cap2, l2, by omega, rfl, rfl, by show l2 = l2 ++ []; rw [List.append_nil], hown2, hb2⟩
  case round =>
    obtain ⟨k, A', cap', l', hk, rfl, rfl, hl', hown, hb⟩ := hrel
    have hsz := hb.size
    have hll : l'.length ≤ 204 := by
      rw [hl'.out, List.length_append, sumBytes, List.length_map, List.length_range]; omega
    by_cases hlt : k < 4
    · have hbyte := sumByte_N s k
      have hblt := sumByte_lt s k
      have Hb := Lib.hid hbyte
      clear hbyte
      go_wp2_with (at_builtin; refine wpList_append_b rfl (.tmp 29) (.tmp 35) rfl w1.heap.size A' cap' l' rfl (hown.alloc _) (wr.heap.size + 1) (some ⟨wr.heap.size, 0, none⟩) 1 1 [sumByte s k] rfl rfl (Rd.new _ _ (sumByte s k) _ Hb.out hblt) (by simp; omega) (by simp; omega) ?_; intro A3 cap3 l3 w3 hl3 hown3 hb3 _)
      go_roundw
      case rel =>
        refine ⟨k + 1, A3, cap3, l3, by omega, by go_num, rfl, ?_, hown3, hb.trans (((Below.refl _ _).alloc hsz _).trans hb3)⟩
        show l3 = _
        rw [hl3.out, hl'.out, sumBytes_succ, List.append_assoc]
      case measure => simp [intOf]; omega
    · have ek : k = 4 := by omega
      rw [ek] at hl'
      have hT3 := hT1.below hb hT1.pos
      have hlen : l'.length = n + 4 := by rw [hl'.out, List.length_append, Hk2.out]; rfl
      have Hlen := Lib.hid hlen
      have hge : 4 ≤ l'.length := by omega
      clear hlen ek
      obtain ⟨g, rfl, hgb, hglt, _⟩ := hown.at_ (by omega)
      obtain ⟨p, hp⟩ : ∃ p : Nat, pos % (8 * (l'.length : Int) - 31) = (p : Int) := ⟨(pos % (8 * (l'.length : Int) - 31)).toNat, by rw [Int.toNat_of_nonneg (Int.emod_nonneg _ (by omega))]⟩
      have hplt : (p : Int) < 8 * (l'.length : Int) - 31 := by rw [← hp]; exact Int.emod_lt_of_pos _ (by omega)
      have c := bring_any pos (8 * (l'.length : Int) - 31) Hat.out (by omega) (by omega)
      rw [hp] at c
      have C := Lib.hid c
      clear c hp
      go_wp2_with fail
      refine (C.out _).mono ?_
      rintro e w' ⟨rfl, rfl⟩
      go_wp2_with fail
      obtain ⟨wo, rfl⟩ : ∃ wo : World, wo = wr := ⟨_, rfl⟩
      go_loopw [11] (fun i wr => ∃ (k : Nat) (m : List Nat), k ≤ 32 ∧ i = .int .i64 k ∧ Hid (m = turned l' t p k) ∧ Own wr w1.heap.size (some ⟨g, 0, none⟩) cap' m ∧ Below w1.heap.size w1 wr) (fun i _ => 32 - (intOf i).toNat)
      case atStart => exact ⟨0, l', by omega, rfl, rfl, hown, hb⟩
      case round =>
        obtain ⟨k, m, hk, rfl, hm', hownm, hbm⟩ := hrel
        have hml : m.length = l'.length := by rw [hm'.out, turned_length]
        by_cases hlt : k < 32
        · have hbit := bit_rem t k
          cases hset : t.getLsbD k with
          | true =>
            rw [hset] at hbit
            have Hset := Lib.hid hset
            clear hset
            have hj : (p + k) / 8 < m.length := by omega
            have hcell := hownm.cell hj
            have hfree := hownm.free ((p + k) / 8)
            go_wp2
            go_region
            go_wp2
            go_roundw
            case rel =>
              have hc8 : m.getD ((p + k) / 8) 0 < 256 := getD_lt hownm.1 _
              have h28 : 2 ^ ((p + k) % 8) < 2 ^ 8 := Nat.pow_lt_pow_right (by omega) (Nat.mod_lt _ (by decide))
              have ev : bits BinOp.xor IntKind.u8 ((m[(p + k) / 8]?.getD 0 : Nat) : Int) (2 ^ ((p + k) % 8) % 256) = ((m.getD ((p + k) / 8) 0 ^^^ 2 ^ ((p + k) % 8) : Nat) : Int) := by
                have e2 : (2 : Int) ^ ((p + k) % 8) % 256 = ((2 ^ ((p + k) % 8) : Nat) : Int) := by
                  have e3 : (2 : Int) ^ ((p + k) % 8) = ((2 ^ ((p + k) % 8) : Nat) : Int) := by simp
                  rw [e3]
                  generalize 2 ^ ((p + k) % 8) = y at h28
                  omega
                rw [e2, ← List.getD_eq_getElem?_getD]
                exact u8_xor_nat _ _ hc8 h28
              rw [ev]
              refine ⟨k + 1, flip m (p + k), by omega, by go_num, ?_, (hownm.set _ _ (Nat.xor_lt_two_pow (n := 8) hc8 h28)).drew, (hbm.setCell hgb _).drew⟩
              show flip m (p + k) = _
              rw [turned, Hset.out, if_pos rfl, ← hm'.out]
            case measure => simp [intOf]; omega
          | false =>
            rw [hset] at hbit
            have Hset := Lib.hid hset
            clear hset
            go_wp2
            go_roundw
            case rel => exact ⟨k + 1, m, by omega, by go_num, by show m = _; rw [turned, Hset.out, if_neg (by simp)]; exact hm'.out, hownm, hbm⟩
            case measure => simp [intOf]; omega
        · have ek : k = 32 := by omega
          rw [ek] at hm'
          clear ek
          have hT4 := hT1.below hbm hT1.pos
          go_wp2
          go_loop [12, 13] (fun x i => ∃ j : Nat, j ≤ 4 ∧ i = .int .i64 (3 - (j : Int)) ∧ x = .int .u32 (N (ws (fun i => m.getD (n + i) 0) j))) (fun _ i => (intOf i + 1).toNat)
          case atStart => exact ⟨0, by omega, rfl, rfl⟩
          case round =>
            obtain ⟨j, hj, rfl, rfl⟩ := hrel
            by_cases hlt4 : j < 4
            · obtain ⟨r, hr3⟩ : ∃ r : Nat, (3 - (j : Int)) = (r : Int) := ⟨3 - j, by omega⟩
              have hjr : 3 - j = r := by omega
              have Hjr := Lib.hid hjr
              have hr4 : r ≤ 3 := by omega
              rw [hr3]
              have Hr3 := Lib.hid hr3
              clear hr3 hjr
              have hgl := Hlen.out
              have hcell := hownm.cell (show n + r < m.length by omega)
              clear hgl
              have hc8 : m.getD (n + r) 0 < 256 := getD_lt hownm.1 _
              obtain ⟨c, hc⟩ : ∃ c, c = m.getD (n + r) 0 := ⟨_, rfl⟩
              rw [← hc] at hcell hc8
              have Hc := Lib.hid hc
              clear hc
              obtain ⟨x, hx⟩ : ∃ x, x = ws (fun i => m.getD (n + i) 0) j := ⟨_, rfl⟩
              rw [← hx]
              have Hx := Lib.hid hx
              clear hx
              have l1 := N_lo x
              have u1 := N_hi x
              have hnr : n + r < l'.length := by have := Hlen.out; omega
              go_wp2
              rw [shl_or x c hc8]
              refine ⟨⟨j + 1, by omega, ?_, ?_⟩, ?_⟩
              · have := Hr3.out
                go_num
              · have e3 : 3 - j = r := Hjr.out
                rw [ws, e3, ← Hx.out, ← Hc.out]
              · simp [intOf]
            · have e4 : (3 - (j : Int)) = -1 := by omega
              have ej : j = 4 := by omega
              rw [e4, ej]
              clear e4 ej
              have hfin := burst_fin l2 m t p n Hk2.out (by rw [hm'.out, hl'.out, Hs.out]) (by have := Hlen.out; omega) hownm.1
              have hlm : (m.take n).length = n := by rw [List.length_take]; have := Hlen.out; omega
              have c := sum_any wr.heap.size cap' (some ⟨g, 0, none⟩) (m.take n) wr (by omega) (hownm.rd.take n) hT4
              rw [hlm] at c
              obtain ⟨x, hx⟩ : ∃ x, x = sum (m.take n) := ⟨_, rfl⟩
              obtain ⟨y, hy⟩ : ∃ y, y = ws (fun i => m.getD (n + i) 0) 4 := ⟨_, rfl⟩
              rw [← hx] at c hfin
              rw [← hy] at hfin
              rw [← hy]
              have hcmp : (N x == N y) = (N t == 0) := by
                rw [Bool.eq_iff_iff, beq_iff_eq, beq_iff_eq]
                constructor
                · intro h
                  rw [hfin.1 (N_inj h)]; decide
                · intro h
                  rw [hfin.2 (N_inj (by rw [h]; decide))]
              obtain ⟨bb, hbb⟩ : ∃ bb, bb = (N t == 0) := ⟨_, rfl⟩
              rw [← hbb] at hcmp
              have hbb' := hbb.symm
              have C := Lib.hid c
              have i1 : n ≤ cap' := by have := hown.size; have := Hlen.out; omega
              have i2 : (n : Int) ≤ (cap' : Int) := by omega
              clear c hfin hlm hx hy hbb
              go_wp2_with (go_at_call 12; refine C.out.mono ?_; rintro e w' ⟨rfl, rfl⟩)
              go_ret
              exact ⟨rfl, hb1.trans (hbm.mono hb1.size)⟩
end Go.Proofs.YtahooodkklgeiaaDoor

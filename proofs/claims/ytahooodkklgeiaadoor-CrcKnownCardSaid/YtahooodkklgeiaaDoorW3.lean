/-
  WALKS, 3: the matrix of package crc: what it makes of a register ('of'), a matrix done twice ('twice'), Join.
-/
import Derived.Test.YtahooodkklgeiaaDoorW2
import Derived.Laws.CopyOwn
import Derived.Deep.WholeRow
import Derived.Laws.Rows
import Derived.Laws.Tables
import Derived.ChangeKeysEq
namespace Go.Proofs.YtahooodkklgeiaaDoor
open Go.RowKit Crc
def MV (m : List Reg) : Array Value := (m.map fun x => Value.int .u32 (N x)).toArray
theorem MV_size (m : List Reg) : (MV m).size = m.length := by simp [MV]
theorem info43 : (Tryd.prog.info? 43).map (·.size) = some 32 := by kernel_rfl
theorem plain22 : Tryd.prog.plainKey 22 = true := by kernel_rfl
theorem cells22 : Tryd.prog.cellsOf 22 = 1 := by kernel_rfl
theorem run_index_arr {P : Program} {t e n : Nat} {cs : Array Value} {k : Nat} {v : Value} (ht : P.underlying t = some (.array n e)) (he : P.plainKey e = true) (hc : P.cellsOf e = 1) (hk : k < n) (hv : cs[k]? = some v) (w : World) :
    (Instr.index t (.agg cs) (.int .i64 (k : Int))).run P w = .ok v w := by
  have hs : (sizeOf e).run P w = .ok 1 w := by
    cases hi : P.info? e with
    | none => unfold Program.plainKey Program.underlying at he; simp [hi] at he
    | some i => rw [run_sizeOf w hi, hc]
  have hp := run_part_plain (P := P) w he hv
  simp [Instr.index, asIntOf, run_underlying ht, hs, hp, hk]

theorem bit_test (r : Reg) (k : Nat) (_hk : k < 32) : bits .and .u32 (N r / 2 ^ k) 1 = if r.getLsbD k then 1 else 0 := by
  have h := u32_and_nat (r.toNat / 2 ^ k) 1 (Nat.lt_of_le_of_lt (Nat.div_le_self _ _) r.isLt) (by decide)
  have e : N r / 2 ^ k = ((r.toNat / 2 ^ k : Nat) : Int) := by unfold N; simp
  rw [e]
  rw [show ((1 : Nat) : Int) = 1 from rfl] at h
  rw [h, bit_getLsbD, Nat.and_one_is_mod]
  by_cases hb : r.toNat / 2 ^ k % 2 = 1
  · rw [hb]; rfl
  · have : r.toNat / 2 ^ k % 2 = 0 := by omega
    rw [this]; rfl
set_option maxHeartbeats 400000 in
theorem of_any (m : List Reg) (hm : m.length = 32) (r : Reg) (w : World) :
    Calls Tryd.prog 25 #[.agg (MV m), .int .u32 (N r)] w fun e w' => e = .returned (.int .u32 (N (mof m r 32))) ∧ Below w.heap.size w w' := by
  have hi : (Tryd.prog.info? 43).map (·.size) = some (MV m).size := by rw [MV_size, hm]; exact info43
  have Hi := Lib.hid hi
  have Hm := Lib.hid hm
  clear hi hm
  go_enter Tryd.func25, Tryd.ntmps25
  go_wp2_with (with_reducible refine wpList_load_row rfl 43 (.tmp 2) rfl w.heap.size rfl _ (MV m) _ _ (heap_alloc_new _ _) Tryd.underlying43 rfl Hi.out ?_)
  go_loop [4, 5, 6, 8] (fun o _ _ i => ∃ k : Nat, k ≤ 32 ∧ i = .int .i64 k ∧ o = .int .u32 (N (mof m r k))) (fun _ _ _ i => 32 - (intOf i).toNat)
  case atStart => exact ⟨0, by omega, rfl, rfl⟩
  case round =>
    obtain ⟨k, hk, rfl, rfl⟩ := hrel
    by_cases hlt : k < 32
    · have hx : (MV m)[k]? = some (.int .u32 (N (m.getD k (BitVec.ofNat 32 0)))) := by
        have hl : k < m.length := by rw [Hm.out]; exact hlt
        unfold MV
        rw [List.getElem?_toArray, List.getElem?_map, List.getD_eq_getElem?_getD, List.getElem?_eq_getElem hl]; rfl
      have hix := fun W => run_index_arr (P := Tryd.prog) Tryd.underlying43 plain22 cells22 hlt hx W
      obtain ⟨x, hxx⟩ : ∃ x, x = m.getD k (BitVec.ofNat 32 0) := ⟨_, rfl⟩
      rw [← hxx] at hix
      have Hx := Lib.hid hxx
      clear hxx hx
      have hb := bit_test r k hlt
      cases hbit : r.getLsbD k with
      | true =>
        rw [hbit, if_pos rfl] at hb
        have Hbit := Lib.hid hbit
        clear hbit
        go_wp2
        go_round
        case rel => exact ⟨k + 1, by omega, by go_num, by rw [mof, Hbit.out, if_pos rfl, Hx.out]⟩
        case measure => simp [intOf]; omega
      | false =>
        rw [hbit, if_neg (by simp)] at hb
        have Hbit := Lib.hid hbit
        clear hbit
        go_wp2
        go_round
        case rel => exact ⟨k + 1, by omega, by go_num, by rw [mof, Hbit.out, if_neg (by simp)]⟩
        case measure => simp [intOf]; omega
    · obtain rfl : k = 32 := by omega
      go_wp2
      go_ret
      exact ⟨rfl, (Below.refl _ _).alloc (Nat.le_refl _) _⟩
/-- block g holds just these cells of a matrix. -/
def Mx (w : World) (g : Nat) (cs : Array Value) : Prop := w.heap[g]? = some (.cells cs 43 (0, 0))
theorem Mx.eq {w : World} {g : Nat} {cs : Array Value} (h : Mx w g cs) : w.heap[g]? = some (.cells cs 43 (0, 0)) := h
theorem Mx.lt {w : World} {g : Nat} {cs : Array Value} (h : Mx w g cs) : g < w.heap.size := by
  rcases Nat.lt_or_ge g w.heap.size with h1 | h1
  · exact h1
  · unfold Mx at h; rw [Array.getElem?_eq_none h1] at h; cases h
theorem Mx.below {w w' : World} {g : Nat} {cs : Array Value} (h : Mx w g cs) (hb : Below w.heap.size w w') : Mx w' g cs := (hb.block g h.lt).trans h
theorem Mx.cell {w : World} {g : Nat} {cs : Array Value} (h : Mx w g cs) (i : Nat) : w.cell? ⟨g, i, none⟩ = cs[i]? := cell_of_row w g i cs _ (0, 0) h
theorem Mx.free {w : World} {g : Nat} {cs : Array Value} (h : Mx w g cs) (i : Nat) : w.frozen? ⟨g, i, none⟩ = false := frozen_of_row w g i cs _ h
theorem MV_at (m : List Reg) (k : Nat) (h : k < m.length) : (MV m)[k]? = some (.int .u32 (N (m.getD k (BitVec.ofNat 32 0)))) := by
  unfold MV
  rw [List.getElem?_toArray, List.getElem?_map, List.getD_eq_getElem?_getD, List.getElem?_eq_getElem h]; rfl
theorem MV_all (m : List Reg) : (MV m).all (·.oneCell') = true := by
  rw [Array.all_eq_true_iff_forall_mem]
  intro v hv
  simp only [MV, List.mem_toArray, List.mem_map] at hv
  obtain ⟨x, _, rfl⟩ := hv
  rfl
/-- a matrix, the first k lines done. -/
def part (f : Nat → Reg) (k : Nat) : List Reg := (List.range 32).map fun i => if i < k then f i else BitVec.ofNat 32 0
theorem part_length (f : Nat → Reg) (k : Nat) : (part f k).length = 32 := by simp [part]
theorem part_set (f : Nat → Reg) (k : Nat) (h : k < 32) : (MV (part f k)).setIfInBounds k (.int .u32 (N (f k))) = MV (part f (k + 1)) := by
  unfold MV
  rw [List.setIfInBounds_toArray]
  congr 1
  apply List.ext_getElem?
  intro i
  rw [List.getElem?_set]
  simp only [List.getElem?_map, part, List.length_map, List.length_range]
  by_cases e : k = i
  · subst e
    rw [if_pos rfl, if_pos h, List.getElem?_range h]
    simp
  · rw [if_neg e]
    by_cases hi : i < 32
    · rw [List.getElem?_range hi]
      have : (i < k + 1) = (i < k) := by apply propext; omega
      simp [this]
    · rw [List.getElem?_eq_none (by simp; omega)]; rfl
theorem part_full (f : Nat → Reg) : part f 32 = (List.range 32).map f := by
  apply List.map_congr_left
  intro i hi
  rw [if_pos (List.mem_range.1 hi)]
def tw (m : List Reg) (k : Nat) : List Reg := part (fun i => mof m (m.getD i (BitVec.ofNat 32 0)) 32) k
theorem tw_length (m : List Reg) (k : Nat) : (tw m k).length = 32 := part_length _ k
theorem tw_set (m : List Reg) (k : Nat) (h : k < 32) : (MV (tw m k)).setIfInBounds k (.int .u32 (N (mof m (m.getD k (BitVec.ofNat 32 0)) 32))) = MV (tw m (k + 1)) := part_set (fun i => mof m (m.getD i (BitVec.ofNat 32 0)) 32) k h
theorem tw_full (m : List Reg) (hm : m.length = 32) : tw m 32 = m.map fun x => mof m x 32 := by
  unfold tw
  rw [part_full]
  apply List.ext_getElem?
  intro i
  simp only [List.getElem?_map]
  by_cases hi : i < 32
  · rw [List.getElem?_range hi, List.getElem?_eq_getElem (by omega)]
    simp only [Option.map_some, List.getD_eq_getElem?_getD, List.getElem?_eq_getElem (show i < m.length by omega), Option.getD_some]
  · rw [List.getElem?_eq_none (by simp; omega), List.getElem?_eq_none (by omega)]; rfl

set_option maxHeartbeats 400000 in
theorem twice_any (m : List Reg) (hm : m.length = 32) (w : World) :
    Calls Tryd.prog 24 #[.agg (MV m)] w fun e w' => e = .returned (.agg (MV (m.map fun x => mof m x 32))) ∧ Below w.heap.size w w' := by
  have hi : ∀ l : List Reg, l.length = 32 → (Tryd.prog.info? 43).map (·.size) = some (MV l).size := fun l h => by rw [MV_size, h]; exact info43
  have Hi := Lib.hid hi
  have Hm := Lib.hid hm
  clear hi hm
  go_enter Tryd.func24, Tryd.ntmps24
  go_wp2_with (with_reducible refine wpList_load_row rfl 43 (.tmp 1) rfl w.heap.size rfl _ (MV m) _ _ (by first | exact heap_alloc_new _ _ | exact heap_alloc2_old _ _ _) Tryd.underlying43 rfl (Hi.out m Hm.out) ?_)
  go_loopw [3, 4, 6] (fun _ _ i wr => ∃ k : Nat, k ≤ 32 ∧ i = .int .i64 k ∧ Mx wr w.heap.size (MV m) ∧ Mx wr (w.heap.size + 1) (MV (tw m k)) ∧ Below w.heap.size w wr) (fun _ _ i _ => 32 - (intOf i).toNat)
  case atStart => exact ⟨0, by omega, rfl, heap_alloc2_old _ _ _, heap_alloc2_new _ _ _, ((Below.refl _ _).alloc (Nat.le_refl _) _).alloc (by simp) _⟩
  case round =>
    obtain ⟨k, hk, rfl, h1, h2, hb⟩ := hrel
    by_cases hlt : k < 32
    · have hx := MV_at m k (by rw [Hm.out]; exact hlt)
      have hix := fun W => run_index_arr (P := Tryd.prog) Tryd.underlying43 plain22 cells22 hlt hx W
      obtain ⟨x, hxx⟩ : ∃ x, x = m.getD k (BitVec.ofNat 32 0) := ⟨_, rfl⟩
      rw [← hxx] at hix
      have Hx := Lib.hid hxx
      clear hxx hx
      have hg1 := h1.lt
      have hg2 := h2.lt
      have hwr := hb.size
      go_wp2_with (first | (with_reducible refine wpList_load_row rfl 43 (.tmp 1) rfl w.heap.size rfl _ (MV m) _ _ h1.eq Tryd.underlying43 rfl (Hi.out m Hm.out) ?_) | (go_at_call 25; refine (of_any m Hm.out x _).mono ?_; rintro e w1 ⟨rfl, hb1⟩; have h1' := h1.below hb1; have h2' := h2.below hb1; have hc := (h2'.cell k).trans (MV_at (tw m k) k (by rw [tw_length]; exact hlt)); have hf := h2'.free k))
      go_roundw
      case rel =>
        refine ⟨k + 1, by omega, by go_num, ?_, ?_, ?_⟩
        · exact (heap_setCell_other w1 _ _ _ (by simp)).trans h1'.eq
        · unfold Mx
          rw [heap_setCell_same _ _ _ _ _ _ h2'.eq, Hx.out, tw_set m k hlt]
        · exact (hb.trans (hb1.mono hb.size)).setCell (by simp) _
      case measure => simp [intOf]; omega
    · obtain rfl : k = 32 := by omega
      rw [tw_full m Hm.out] at h2
      go_wp2_with (first | (with_reducible refine wpList_load_row rfl 43 (.tmp 2) rfl (w.heap.size + 1) rfl _ (MV (m.map fun x => mof m x 32)) _ _ h2.eq Tryd.underlying43 rfl (Hi.out _ (by rw [List.length_map]; exact Hm.out)) ?_) | (with_reducible refine wpList_store_row rfl 43 (.tmp 2) (.tmp 16) rfl (w.heap.size + 1) (MV (m.map fun x => mof m x 32)) rfl rfl _ _ h2.eq (Hi.out _ (by rw [List.length_map]; exact Hm.out)) rfl (MV_all _) ?_))
      exact bodyPost_ret (v := .agg (MV (m.map fun x => mof m x 32))) (results_cell_row rfl _ _ (w.heap.size + 1) 43 _ (0, 0) _ rfl (setRow_heap _ _ _ _ _ _ h2.eq) Tryd.underlying43 rfl (Hi.out _ (by rw [List.length_map]; exact Hm.out))) rfl ⟨rfl, below_setRow hb (by omega) _⟩
set_option maxHeartbeats 400000 in
theorem join_neg (a b n : Int) (hn : n < 0) (w : World) :
    Calls Tryd.prog 18 #[.int .u32 a, .int .u32 b, .int .i64 n] w fun e w' => e = .returned (.tuple #[.int .u32 0, .int .i64 6]) ∧ w = w' := by
  go_enter Tryd.func18, Tryd.ntmps18
  go_wp2
  go_step3
  go_wp2
  rw [Exit.noGoto_ret]
  go_ret2
  exact ⟨rfl, rfl⟩

def ini (k : Nat) : List Reg := part (fun i => stN 1 (Crc.unit i)) k
theorem ini_length (k : Nat) : (ini k).length = 32 := part_length _ k
theorem ini_full : ini 32 = mat 1 := part_full _
theorem twice_mat (n : Nat) (w : World) :
    Calls Tryd.prog 24 #[.agg (MV (mat n))] w fun e w' => e = .returned (.agg (MV (mat (n + n)))) ∧ Below w.heap.size w w' := by
  have h := twice_any (mat n) (mat_length n) w
  rw [mat_twice] at h
  exact h
theorem of_mat (n : Nat) (r : Reg) (w : World) :
    Calls Tryd.prog 25 #[.agg (MV (mat n)), .int .u32 (N r)] w fun e w' => e = .returned (.int .u32 (N (stN n r))) ∧ Below w.heap.size w w' := by
  have h := of_any (mat n) (mat_length n) r w
  rw [mof_mat] at h
  exact h
theorem i64_and_one (q : Nat) (h : q ≤ 9223372036854775807) : bits .and .i64 (q : Int) 1 = ((q % 2 : Nat) : Int) := by
  have e := u64_and_nat q 1 (by omega) (by omega)
  rw [Nat.and_one_is_mod] at e
  show IntKind.i64.wrap ((BitVec.ofInt 64 (q : Int) &&& BitVec.ofInt 64 1).toNat : Int) = _
  rw [BitVec.toNat_and, ofInt_u64 q (by omega), show (BitVec.ofInt 64 1).toNat = 1 by decide, Nat.and_one_is_mod, IntKind.wrap_i64]
  omega
theorem stN_halve (c q : Nat) (x : Reg) : stN ((c + c) * (q / 2)) (if q % 2 = 1 then stN c x else x) = stN (c * q) x := by
  have hq : q = 2 * (q / 2) + q % 2 := by omega
  generalize q / 2 = h at *
  by_cases e : q % 2 = 1
  · rw [if_pos e, ← stN_add]
    congr 1
    rw [hq, e, Nat.mul_add, Nat.mul_one, ← Nat.mul_assoc, Nat.mul_two, Nat.add_comm]
  · rw [if_neg e]
    congr 1
    rw [hq, show q % 2 = 0 by omega, Nat.add_zero, ← Nat.mul_assoc, Nat.mul_two]
theorem unit_N (k : Nat) (h1 : 1 ≤ k) (h : k < 32) : (2 : Int) ^ (k - 1) % 4294967296 = N (stN 1 (Crc.unit k)) := by
  obtain ⟨j, rfl⟩ : ∃ j, k = j + 1 := ⟨k - 1, by omega⟩
  have hp : 2 ^ j < 2 ^ 32 := Nat.pow_lt_pow_right (by omega) (by omega)
  rw [stN_one, st_unit j h, Crc.unit, N_nat _ (by omega), Nat.add_sub_cancel]
  have e : (2 : Int) ^ j = ((2 ^ j : Nat) : Int) := by simp
  rw [e]
  generalize 2 ^ j = q at *
  omega
theorem built43 : Tryd.prog.built 43 [(0, .int .u32 2197175160)] = some (MV (ini 1)) := by kernel_rfl
theorem wpList_build_eq {P : Program} {ops : Array Oper} {rest : List Oper} {o : Oper} {a : Act} {w : World} {Q : Exit → Act → World → Prop} (hg : o.guard = none) (t : TypeId) (parts : Array (Nat × Operand)) (ho : o.op = .build t parts)
    (cs : Array Value) (hf : P.built t (parts.map fun (i, x) => (i, a.eval x)).toList = some cs)
    (h : wpList P ops Q rest (a.put o.dst (.agg cs)) w) : wpList P ops Q (o :: rest) a w := by
  refine wpList_build hg t parts ho (by rw [hf]; rfl) ?_
  rw [hf]
  exact h
set_option maxHeartbeats 400000 in
theorem join_any (a b : Reg) (n : Nat) (hn : n ≤ 9223372036854775807) (w : World) :
    Calls Tryd.prog 18 #[.int .u32 (N a), .int .u32 (N b), .int .i64 n] w fun e w' => e = .returned (.tuple #[.int .u32 (N (join a b n)), .int .i64 0]) ∧ Below w.heap.size w w' := by
  have hi : ∀ l : List Reg, l.length = 32 → (Tryd.prog.info? 43).map (·.size) = some (MV l).size := fun l h => by rw [MV_size, h]; exact info43
  have Hi := Lib.hid hi
  clear hi
  have n0 : decide ((n : Int) < 0) = false := by simp
  go_enter Tryd.func18, Tryd.ntmps18
  go_wp2
  go_step3
  go_wp2_with (first
    | (with_reducible refine wpList_build_eq rfl 43 #[(0, .const (.int .u32 2197175160))] rfl (MV (ini 1)) built43 ?_)
    | (with_reducible refine wpList_store_row rfl 43 (.tmp 8) (.tmp 12) rfl w.heap.size (MV (ini 1)) rfl rfl _ _ (heap_alloc_new _ _) (Hi.out _ (ini_length 1)) rfl (MV_all _) ?_; rw [World.setRow_alloc_new]))
  go_loopw [9] (fun i wr => ∃ k : Nat, 1 ≤ k ∧ k ≤ 32 ∧ i = .int .i64 k ∧ Mx wr w.heap.size (MV (ini k)) ∧ Below w.heap.size w wr) (fun i _ => 32 - (intOf i).toNat)
  case atStart => exact ⟨1, by omega, by omega, rfl, heap_alloc_new _ _, (Below.refl _ _).alloc (Nat.le_refl _) _⟩
  case round =>
    obtain ⟨k, hk1, hk, rfl, h1, hb⟩ := hrel
    by_cases hlt : k < 32
    · have hc := (h1.cell k).trans (MV_at (ini k) k (by rw [ini_length]; exact hlt))
      have hf := h1.free k
      go_wp2
      go_roundw
      case rel =>
        refine ⟨k + 1, by omega, by omega, by go_num, ?_, ?_⟩
        · unfold Mx
          rw [heap_setCell_same _ _ _ _ _ _ h1.eq]
          rw [unit_N k hk1 hlt]
          exact congrArg (fun z => some (Obj.cells z 43)) (part_set (fun i => stN 1 (Crc.unit i)) k hlt)
        · exact hb.setCell (by simp) _
      case measure => simp [intOf]; omega
    · have e32 : k = 32 := by omega
      rw [e32, ini_full] at h1
      clear e32
      go_wp2
      obtain ⟨wo, rfl⟩ : ∃ wo : World, wo = wr := ⟨_, rfl⟩
      go_loopw [22] (fun i wr => ∃ k : Nat, k ≤ 3 ∧ i = .int .i64 k ∧ Mx wr w.heap.size (MV (mat (2 ^ k))) ∧ Below w.heap.size w wr) (fun i _ => 3 - (intOf i).toNat)
      case atStart => exact ⟨0, by omega, rfl, h1, hb⟩
      case round =>
        obtain ⟨k, hk, rfl, h2, hb2⟩ := hrel
        by_cases hlt : k < 3
        · go_wp2_with (first | (with_reducible refine wpList_load_row rfl 43 (.tmp 8) rfl w.heap.size rfl _ (MV (mat (2 ^ k))) _ _ h2.eq Tryd.underlying43 rfl (Hi.out _ (mat_length _)) ?_) | (go_at_call 24; refine (twice_mat (2 ^ k) _).mono ?_; rintro e w1 ⟨rfl, hb1⟩; have h2' := h2.below hb1) | (with_reducible refine wpList_store_row rfl 43 (.tmp 8) (.tmp 25) rfl w.heap.size (MV (mat (2 ^ k + 2 ^ k))) rfl rfl _ _ h2'.eq (Hi.out _ (mat_length _)) (by rw [MV_size, MV_size, mat_length, mat_length]) (MV_all _) ?_))
          go_roundw
          case rel => exact ⟨k + 1, by omega, by go_num, by rw [Nat.pow_succ, Nat.mul_two]; exact setRow_heap _ _ _ _ _ _ h2'.eq, below_setRow (hb2.trans (hb1.mono hb2.size)) (Nat.le_refl _) _⟩
          case measure => simp [intOf]; omega
        · have e3 : k = 3 := by omega
          rw [e3] at h2
          clear e3
          go_wp2
          go_step3
          go_wp2
          obtain ⟨wo2, rfl⟩ : ∃ wo : World, wo = wr := ⟨_, rfl⟩
          go_loopw [0, 2] (fun x q wr => ∃ (r : Reg) (t c : Nat), x = .int .u32 (N r) ∧ q = .int .i64 t ∧ t ≤ 9223372036854775807 ∧ Mx wr w.heap.size (MV (mat c)) ∧ Below w.heap.size w wr ∧ stN (c * t) r = stN (8 * n) a) (fun _ q _ => (intOf q).toNat)
          case atStart => exact ⟨a, n, 8, rfl, rfl, hn, h2, hb2, rfl⟩
          case round =>
            obtain ⟨r, t, c, rfl, rfl, ht, h3, hb3, hst⟩ := hrel
            have Hst := Lib.hid hst
            clear hst
            by_cases ht0 : t = 0
            · rw [ht0] at Hst
              have tb : ((t : Int) == 0) = true := by rw [ht0]; rfl
              clear ht0
              go_wp2
              rw [Exit.noGoto_ret]
              go_ret2
              exact ⟨by rw [← xor_N, show N r = N (stN (8 * n) a) by rw [← Hst.out, Nat.mul_zero]; rfl, xor_N]; rfl, hb3⟩
            · have tb : ((t : Int) == 0) = false := by simpa using ht0
              have hand := i64_and_one t ht
              by_cases hodd : t % 2 = 1
              · rw [hodd] at hand
                have Hodd := Lib.hid hodd
                clear hodd
                go_wp2_with (first | (with_reducible refine wpList_load_row rfl 43 (.tmp 8) rfl w.heap.size rfl _ (MV (mat c)) _ _ h3.eq Tryd.underlying43 rfl (Hi.out _ (mat_length _)) ?_) | (go_at_call 25; refine (of_mat c r _).mono ?_; rintro e w1 ⟨rfl, hb1⟩; have h3' := h3.below hb1) | (with_reducible refine wpList_load_row rfl 43 (.tmp 8) rfl w.heap.size rfl _ (MV (mat c)) _ _ h3'.eq Tryd.underlying43 rfl (Hi.out _ (mat_length _)) ?_) | (go_at_call 24; refine (twice_mat c _).mono ?_; rintro e w2 ⟨rfl, hb4⟩; have h3'' := h3'.below hb4) | (with_reducible refine wpList_store_row rfl 43 (.tmp 8) (.tmp 38) rfl w.heap.size (MV (mat (c + c))) rfl rfl _ _ h3''.eq (Hi.out _ (mat_length _)) (by rw [MV_size, MV_size, mat_length, mat_length]) (MV_all _) ?_))
                go_roundw
                case rel =>
                  refine ⟨stN c r, t / 2, c + c, rfl, by simp, by omega, setRow_heap _ _ _ _ _ _ h3''.eq, below_setRow ((hb3.trans (hb1.mono hb3.size)).trans (hb4.mono (Nat.le_trans hb3.size hb1.size))) (Nat.le_refl _) _, ?_⟩
                  have e := stN_halve c t r
                  rw [if_pos Hodd.out] at e
                  rw [e]
                  exact Hst.out
                case measure => simp [intOf]; omega
              · have he : t % 2 = 0 := by omega
                rw [he] at hand
                have Hodd := Lib.hid hodd
                clear hodd he
                go_wp2_with (first | (with_reducible refine wpList_load_row rfl 43 (.tmp 8) rfl w.heap.size rfl _ (MV (mat c)) _ _ h3.eq Tryd.underlying43 rfl (Hi.out _ (mat_length _)) ?_) | (go_at_call 24; refine (twice_mat c _).mono ?_; rintro e w2 ⟨rfl, hb4⟩; have h3'' := h3.below hb4) | (with_reducible refine wpList_store_row rfl 43 (.tmp 8) (.tmp 38) rfl w.heap.size (MV (mat (c + c))) rfl rfl _ _ h3''.eq (Hi.out _ (mat_length _)) (by rw [MV_size, MV_size, mat_length, mat_length]) (MV_all _) ?_))
                go_roundw
                case rel =>
                  refine ⟨r, t / 2, c + c, rfl, by simp, by omega, setRow_heap _ _ _ _ _ _ h3''.eq, below_setRow (hb3.trans (hb4.mono hb3.size)) (Nat.le_refl _) _, ?_⟩
                  have e := stN_halve c t r
                  rw [if_neg Hodd.out] at e
                  rw [e]
                  exact Hst.out
                case measure => simp [intOf]; omega
end Go.Proofs.YtahooodkklgeiaaDoor

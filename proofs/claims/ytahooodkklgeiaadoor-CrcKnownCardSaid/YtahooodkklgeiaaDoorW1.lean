/-
  WALKS, 1.
-/
import Derived.Test.YtahooodkklgeiaaDoorWords
namespace Go.Proofs.YtahooodkklgeiaaDoor
open Go.RowKit Crc

set_option maxHeartbeats 400000 in
theorem update_any (s : Reg) (b cap : Nat) (A : Option Addr) (l : List Nat) (w : World) (hl : l.length ≤ 9223372036854775807) (hr : Rd w b A l) (hT : HasTab w) :
    Calls Tryd.prog 14 #[.int .u32 (N s), .slice A l.length cap] w fun e w' => e = .returned (.int .u32 (N (upd s l))) ∧ w = w' := by
  go_enter Tryd.func14, Tryd.ntmps14
  go_wp2
  go_loop [5, 7, 12] (fun r _ i => ∃ k : Nat, k ≤ l.length ∧ i = .int .i64 k ∧ r = .int .u32 (N (tk (~~~s) (l.take k)))) (fun _ _ i => l.length - (intOf i).toNat)
  case atStart => exact ⟨0, Nat.zero_le _, rfl, rfl⟩
  case round =>
    obtain ⟨k, hk, rfl, rfl⟩ := hrel
    by_cases hlt : k < l.length
    · obtain ⟨ad, c, rfl, hc, htk, hcell⟩ := hr.at_ hlt
      have Htk := Lib.hid htk
      clear htk
      obtain ⟨x, hx⟩ : ∃ x, x = tk (~~~s) (l.take k) := ⟨_, rfl⟩
      have Hx := Lib.hid hx
      rw [← hx]
      clear hx
      have hb := byte_xor x c hc
      obtain ⟨x1, hx1⟩ : ∃ y, y = x ^^^ BitVec.ofNat 32 c := ⟨_, rfl⟩
      rw [← hx1] at hb
      have Hx1 := Lib.hid hx1
      clear hx1
      have l1 := N_lo x1
      have u1 := N_hi x1
      have t1 := hT.at_ x1
      have e1 := half_N x1
      obtain ⟨x2, hx2⟩ : ∃ y, y = stN 4 x1 := ⟨_, rfl⟩
      rw [← hx2] at e1
      have Hx2 := Lib.hid hx2
      clear hx2
      have l2 := N_lo x2
      have u2 := N_hi x2
      have t2 := hT.at_ x2
      have e2 := half_N x2
      go_wp2
      go_round
      case rel => exact ⟨k + 1, by omega, by go_num, by rw [Htk.out, tk_snoc, ← Hx.out, ← Hx1.out, show 8 = 4 + 4 from rfl, stN_add, ← Hx2.out]⟩
      case measure => simp [intOf]; omega
    · go_wp2
      go_ret
      exact ⟨ret_int (by rw [List.take_of_length_le (by omega)]; rfl), rfl⟩
end Go.Proofs.YtahooodkklgeiaaDoor

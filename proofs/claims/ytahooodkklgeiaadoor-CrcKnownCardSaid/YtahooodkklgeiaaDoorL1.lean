/-
  WALKS of the laws CrcSums, CrcJoins, CrcGoesOn, CrcJoined, CrcFar.
-/
import Derived.Test.YtahooodkklgeiaaDoorW4
namespace Go.Proofs.YtahooodkklgeiaaDoor
open Go.RowKit Crc

theorem eqb_two (b b2 cap c2 : Nat) (A A2 : Option Addr) (l l2 : List Nat) (w : World) (hl : l = l2) (hr : Rd w b A l) (hr2 : Rd w b2 A2 l2) :
    Calls Tryd.prog 16 #[.slice A l.length cap, .slice A2 l2.length c2] w fun e w' => e = .returned (.bool true) ∧ w = w' := by
  subst hl
  exact eqb_any b b2 cap c2 A A2 l w hr hr2
theorem take_le (l l1 : List Nat) (k : Nat) (h : Hid (l1 = l.take k)) : l1.length ≤ k := by rw [h.out, List.length_take]; omega

set_option maxHeartbeats 400000 in
theorem sums_walk (s : Reg) (cap : Nat) (A : Option Addr) (l : List Nat) (w : World) (hl : l.length ≤ cap) (hm : l.length ≤ 9223372036854775807) (hr : Rd w w.heap.size A l) (hT : HasTab w) :
    Calls Tryd.prog 3 #[.int .u32 (N s), .slice A l.length cap] w fun e w' => e = .returned (.bool true) ∧ Below w.heap.size w w' := by
  have h0 := hT.pos
  go_enter Tryd.func3, Tryd.ntmps3
  go_wp2_with fail
  refine (cut_any w.heap.size cap A l _ hl hm hr).mono ?_
  rintro e w1 ⟨A1, cap1, l1, hl1, rfl, hown1, hb1⟩
  have hk1 := take_le l l1 300 hl1
  have hT1 := hT.below hb1 h0
  have hr1 := hown1.rd
  have hrl := hr.below hb1 (Nat.le_refl _)
  go_wp2_with fail
  refine (sum_any _ _ _ l1 _ (by omega) hr1 hT1).mono ?_
  rintro e w' ⟨rfl, rfl⟩
  go_wp2_with fail
  refine (refSum_any _ _ _ l1 _ (by omega) hr1).mono ?_
  rintro e w' ⟨rfl, rfl⟩
  go_wp2_with fail
  refine (update_any s _ _ _ l1 _ (by omega) hr1 hT1).mono ?_
  rintro e w' ⟨rfl, rfl⟩
  go_wp2_with fail
  refine (refUpdate_any s _ _ _ l1 _ (by omega) hr1).mono ?_
  rintro e w' ⟨rfl, rfl⟩
  go_wp2_with fail
  refine (cut_any w.heap.size cap A l _ hl hm hrl).mono ?_
  rintro e w2 ⟨A2, cap2, l2, hl2, rfl, hown2, hb2⟩
  have hr1' := hr1.below hb2 (Nat.le_refl _)
  have hT2 := hT1.below hb2 hT1.pos
  have hr2 := hown2.rd
  go_wp2_with fail
  refine (eqb_two _ _ _ _ _ _ l1 l2 _ (hl1.out.trans hl2.out.symm) hr1' hr2).mono ?_
  rintro e w' ⟨rfl, rfl⟩
  go_wp2_with fail
  refine (works_any _ hT2).mono ?_
  rintro e w3 ⟨rfl, hb3⟩
  go_wp2
  go_ret
  exact ⟨rfl, (hb1.trans (hb2.mono hb1.size)).trans (hb3.mono (Nat.le_trans hb1.size hb2.size))⟩
end Go.Proofs.YtahooodkklgeiaaDoor

/-
  WORDS for the walks over package crc: registers as Go's uint32 ('N', 'B'), bytes as a list of numbers ('Rd'), the table in memory ('HasTab'). No condition.
-/
import Derived.Test.YtahooodkklgeiaaDoorProg
import Derived.Test.YtahooodkklgeiaaDoorMath
import Derived.WalkKit
import Derived.WalkSpells
import Derived.WalkLawsBesides
import Derived.Laws.OwnMore
import Derived.Deep.Draws
import Derived.Lib.Hide
namespace Go.Proofs.YtahooodkklgeiaaDoor
open Go.RowKit Crc

/-- a register as Go's number. -/
def N (x : Reg) : Int := (x.toNat : Int)
def B (s : Int) : Reg := BitVec.ofInt 32 s
theorem N_lo (x : Reg) : 0 ≤ N x := Int.natCast_nonneg _
theorem N_hi (x : Reg) : N x < 4294967296 := by have := x.isLt; unfold N; omega
theorem B_N (x : Reg) : B (N x) = x := by
  unfold B N; rw [BitVec.ofInt_natCast]; simp
theorem N_B (s : Int) (h0 : 0 ≤ s) (h1 : s < 4294967296) : N (B s) = s := by
  obtain ⟨n, rfl⟩ := Int.eq_ofNat_of_zero_le h0
  unfold B N; rw [ofInt_u32 n (by omega)]
theorem N_inj {x y : Reg} (h : N x = N y) : x = y := by rw [← B_N x, h, B_N]
theorem N_nat (n : Nat) (h : n < 4294967296) : N (BitVec.ofNat 32 n) = n := by
  unfold N; rw [BitVec.toNat_ofNat, Nat.mod_eq_of_lt (by omega)]
@[go_sem] theorem u32_signed : IntKind.u32.signed = false := rfl
@[go_sem] theorem xor_N (x y : Reg) : bits .xor .u32 (N x) (N y) = N (x ^^^ y) := by
  unfold N; rw [u32_xor_nat _ _ (by omega) (by omega), BitVec.toNat_xor]
@[go_sem] theorem not_N (x : Reg) : bits .xor .u32 IntKind.u32.max (N x) = N (~~~x) := by
  have h : IntKind.u32.max = N (~~~(BitVec.ofNat 32 0)) := by decide
  rw [h, xor_N, BitVec.not_zero, BitVec.allOnes_xor]
theorem shr_N (x : Reg) (k : Nat) : N x / 2 ^ k = N (x >>> k) := by
  unfold N; rw [BitVec.toNat_ushiftRight, Nat.shiftRight_eq_div_pow]; simp
theorem byte_xor (x : Reg) (c : Nat) (h : c < 256) : bits .xor .u32 (N x) (c : Int) = N (x ^^^ BitVec.ofNat 32 c) := by
  rw [← N_nat c (by omega), xor_N]

/-- the table of package crc, as it lies in memory. -/
def HasTab (w : World) : Prop := ∀ j : Nat, j < 16 → w.cell? ⟨0, j, none⟩ = some (.int .u32 (N (tabAt j)))
theorem HasTab.at_ {w : World} (h : HasTab w) (x : Reg) : w.cell? ⟨0, (N x % 16).toNat, none⟩ = some (.int .u32 (N (tabAt (x.toNat % 16)))) := by
  have e : (N x % 16).toNat = x.toNat % 16 := by unfold N; omega
  rw [e]; exact h _ (Nat.mod_lt _ (by decide))
theorem half_N (x : Reg) : bits .xor .u32 (N x / 16) (N (tabAt (x.toNat % 16))) = N (stN 4 x) := by
  rw [show (16 : Int) = 2 ^ 4 by decide, shr_N, xor_N, half]
theorem ret_int {k : IntKind} {a b : Int} (h : a = b) : Ending.returned (.int k a) = .returned (.int k b) := by rw [h]
/-- bytes in memory: the slice value's address A, the list l, below block b. -/
def Rd (w : World) (b : Nat) (A : Option Addr) (l : List Nat) : Prop :=
  (∀ c ∈ l, c < 256) ∧ (0 < l.length → ∃ ad, A = some ad ∧ ad.block < b ∧ ∀ j, j < l.length → w.cell? (ad.add j) = some (.int .u8 ((l.getD j 0 : Nat) : Int)))
theorem Rd.at_ {w : World} {b : Nat} {A : Option Addr} {l : List Nat} (h : Rd w b A l) {k : Nat} (hk : k < l.length) :
    ∃ (ad : Addr) (c : Nat), A = some ad ∧ c < 256 ∧ l.take (k + 1) = l.take k ++ [c] ∧ w.cell? (ad.add k) = some (.int .u8 (c : Int)) := by
  obtain ⟨ad, hA, _, hc⟩ := h.2 (by omega)
  refine ⟨ad, l[k], hA, h.1 _ (List.getElem_mem _), ?_, ?_⟩
  · rw [List.take_succ_eq_append_getElem hk]
  · rw [hc k hk, List.getD_eq_getElem?_getD, List.getElem?_eq_getElem hk]; rfl

end Go.Proofs.YtahooodkklgeiaaDoor

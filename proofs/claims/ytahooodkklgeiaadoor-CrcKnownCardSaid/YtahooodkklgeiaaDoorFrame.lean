/-
  WHAT ALL ROWS OF THIS SEAT SHARE: the listed table read off the premise, a world for the witness, arguments opened to registers and bytes. No condition.
-/
import Derived.Test.YtahooodkklgeiaaDoorCards
import Derived.Test.YtahooodkklgeiaaDoorTie
import Derived.Test.YtahooodkklgeiaaDoorOwn
import Derived.WalkKit
import Derived.ProofKit
import Derived.OpenShut
import Derived.ShutString
import Derived.ChangeOld
import Derived.Below
import Derived.Deep.DeepHandedRow
import Derived.Lib.LaidTab
namespace Go.Proofs.YtahooodkklgeiaaDoor
open Go.ChangeShapes Go.WideShapes Go.ChangeAt Go.RowKit Crc

theorem own : ownKnob Tryd.prog.godebug = none := by kernel_rfl
theorem laidOut : laidOutB Tryd.prog = true := by kernel_rfl
theorem gTab : Tryd.prog.globalNamed "millstream/crc.table" = some 0 := by kernel_rfl
theorem gTabType : (Tryd.prog.globals[0]?).map (·.type) = some 40 := by kernel_rfl
theorem cells40 : Tryd.prog.cellsOf 40 = 16 := by kernel_rfl
theorem cells5 : Tryd.prog.cellsOf 5 = 1 := by kernel_rfl
theorem tcells22 : Tryd.prog.cellsOf 22 = 1 := by kernel_rfl
def tabZ : List Int := [0, 274646895, 549293790, 820201905, 1098587580, 1361435347, 1640403810, 1905808397, 2197175160, 2460548119, 2722870694, 2987750089, 3280807620, 3553878443, 3811616794, 4084100981]
theorem tabZ_eq : ∀ j : Fin 16, tabZ.getD j.val 0 = N (tabAt j.val) := by decide +kernel
theorem hasTab_of {W : World} (h : laidMetH Tryd.prog [("millstream/crc.table", Rows.laid_millstream_crc_table)] W) : HasTab W := by
  have ht : Lib.TabIs Tryd.prog W "millstream/crc.table" .u32 tabZ := Lib.tabIs_of_head (rest := []) gTab gTabType Tryd.underlying40 Tryd.underlying22 tcells22 cells40 h
  intro j hj
  rw [← tabZ_eq ⟨j, hj⟩]
  exact ht.cell gTab j hj
/-- A WORLD FOR THE WITNESS: the settled one, the table (block 0) holding what its initialiser lays. -/
noncomputable def laidWorld (os : Os) : World :=
  { World.holding Tryd.prog os ⟨#[], #[], []⟩ with heap := (World.holding Tryd.prog os ⟨#[], #[], []⟩).heap.modify 0 fun
      | .cells _ t frozen => .cells #[.int .u32 0, .int .u32 274646895, .int .u32 549293790, .int .u32 820201905, .int .u32 1098587580, .int .u32 1361435347, .int .u32 1640403810, .int .u32 1905808397, .int .u32 2197175160, .int .u32 2460548119, .int .u32 2722870694, .int .u32 2987750089, .int .u32 3280807620, .int .u32 3553878443, .int .u32 3811616794, .int .u32 4084100981] t frozen
      | o => o }
theorem reg_of_wf {x : Int} (h : (Lit.int .u32 x).wf = true) : ∃ s : Reg, N s = x := by
  have b := bounds_u32 h
  exact ⟨B x, N_B x (by omega) (by omega)⟩
theorem i64_of_wf {x : Int} (h : (Lit.int .i64 x).wf = true) : -9223372036854775808 ≤ x ∧ x ≤ 9223372036854775807 := by
  have b := bounds_i64 h
  omega
theorem bytes_of_trod {H : Type} {enc : TypeId × Value → H} {W : World} {base : Nat} {sp : Nat → Bool} {held : Bool} {a : Option Addr} {len cap : Nat} {d : DataW H} {p : List MemPlace}
    (h : DataW.Trod enc Tryd.prog W base sp held 23 (.slice a len cap) d p) : ∃ l : List Nat, l.length = len ∧ l.length ≤ cap ∧ l.length ≤ 9223372036854775807 ∧ Rd W W.heap.size a l := by
  obtain ⟨fuel, hf⟩ := h
  rcases open_ints Tryd.underlying23 Tryd.underlying5 cells5 hf with ⟨hcs, _⟩ | ⟨x, l, c, zs, hcs, _, hl, hm, hz, _, hcell, hwz⟩
  · simp [Value.cells] at hcs
    obtain ⟨rfl, rfl, rfl⟩ := hcs
    exact ⟨[], rfl, by simp, by simp, Rd.empty _ _ _⟩
  · simp [Value.cells] at hcs
    obtain ⟨rfl, rfl, rfl⟩ := hcs
    have hlen : len ≤ zs.length := by rw [hz]; split <;> omega
    have hw : ∀ z ∈ zs, 0 ≤ z ∧ z < 256 := fun z hz' => by have b := bounds_u8 (hwz z hz'); omega
    have hln : ((zs.take len).map Int.toNat).length = len := by rw [List.length_map, List.length_take]; omega
    refine ⟨(zs.take len).map Int.toNat, hln, by omega, by unfold maxLen at hm; omega, ?_, fun _ => ⟨x, rfl, ?_, fun j hj => ?_⟩⟩
    · intro c hc
      obtain ⟨z, hz1, rfl⟩ := List.mem_map.1 hc
      have := hw z (List.mem_of_mem_take hz1)
      omega
    · have h0 : 0 < zs.length := by omega
      have := block_lt_of_cell (hcell 0 h0)
      rwa [block_add] at this
    · rw [hln] at hj
      rw [hcell j (by omega), List.getD_eq_getElem?_getD, List.getD_eq_getElem?_getD, List.getElem?_map, List.getElem?_take_of_lt hj, List.getElem?_eq_getElem (show j < zs.length by omega)]
      have := hw zs[j] (List.getElem_mem _)
      simp only [Option.map_some, Option.getD_some]
      rw [Int.toNat_of_nonneg this.1]
end Go.Proofs.YtahooodkklgeiaaDoor

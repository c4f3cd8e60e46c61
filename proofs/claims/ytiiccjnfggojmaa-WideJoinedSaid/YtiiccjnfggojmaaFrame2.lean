/-
  WHAT CAME IN, 2: pairs in a row, read as the walks want them. No condition.
-/
import Derived.Test.YtiiccjnfggojmaaFrame
import Derived.Test.YtiiccjnfggojmaaW15
namespace Go.Proofs.Ytiiccjnfggojmaa
open Go.ChangeShapes Go.WideShapes Go.RowKit Go.Deep Wd
theorem pairs_of_trod {H : Type} {enc : TypeId × Value → H} {W : World} {base : Nat} {sp : Nat → Bool} {held : Bool} {a : Option Addr} {len cap : Nat} {d : DataW H} {p : List MemPlace}
    (h : DataW.Trod enc Try.prog W base sp held 40 (.slice a len cap) d p) : ∃ l : List (Int × Int), l.length = len ∧ l.length ≤ cap ∧ Fit64 l ∧ Prs W a l := by
  obtain ⟨fuel, hf⟩ := h
  rcases open_slice Try.underlying40 hf with ⟨hcs, _⟩ | ⟨x, l, c, m, n, D, Pl, hcs, _, hl, _, hmm, _, hx⟩
  · simp [Value.cells] at hcs
    obtain ⟨rfl, rfl, rfl⟩ := hcs
    exact ⟨[], rfl, by simp, fun p hp => (by cases hp), fun k hk => absurd hk (by simp)⟩
  · simp [Value.cells] at hcs
    obtain ⟨rfl, rfl, rfl⟩ := hcs
    have hc : Try.prog.cellsOf 38 = 2 := by kernel_rfl
    have hlm : len ≤ m := by rw [hmm]; split <;> omega
    obtain ⟨f, hf2⟩ := choose_lt (α := Int × Int) (n := len) (p := fun i v => W.cell? (x.add (i * 2)) = some (.int .i64 v.1) ∧ W.cell? (x.add (i * 2 + 1)) = some (.int .i64 v.2) ∧ In64 v.1 ∧ In64 v.2) (fun i hi => by
      obtain ⟨cs', h1, h2⟩ := hx i (by omega)
      obtain ⟨u, v, rfl, hu, hv⟩ := two_cells h2
      rw [hc] at h1
      obtain ⟨_, _, h3⟩ := World.cells?_some h1
      have e0 := h3 0 (by omega)
      have e1 := h3 1 (by omega)
      rw [adda] at e0 e1
      exact ⟨(u, v), e0, e1, hu, hv⟩)
    refine ⟨(List.range len).map f, by simp, by simpa using hl, fun q hq => ?_, fun k hk => ?_⟩
    · obtain ⟨i, hi, rfl⟩ := List.mem_map.1 hq
      obtain ⟨_, _, h3, h4⟩ := hf2 i (List.mem_range.1 hi)
      exact ⟨h3, h4⟩
    · have hk' : k < len := by simpa using hk
      obtain ⟨h1, h2, _, _⟩ := hf2 k hk'
      have hb := block_lt_of_cell h1
      rw [addb] at hb
      refine ⟨x, rfl, hb, ?_⟩
      simp only [List.getElem_map, List.getElem_range]
      exact ⟨h1, h2⟩
end Go.Proofs.Ytiiccjnfggojmaa

/-
  WHAT CAME IN: a wide number, a pair, three wide numbers, pairs in a row: read as the walks want them. No condition.
-/
import Derived.Test.YtiiccjnfggojmaaLGroup
import Derived.Lib.SmallJoins
import Derived.OpenShut
import Derived.Deep.Slices
namespace Go.Proofs.Ytiiccjnfggojmaa
open Go.ChangeShapes Go.WideShapes Go.RowKit Go.Deep Wd
section
variable {H : Type} {enc : TypeId × Value → H} {w : World} {base : Nat} {spare : Nat → Bool} {held : Bool} {r : Reach} {b0 : Nat}
theorem u64_of {n : Int} (h : (Lit.int .u64 n).wf = true) : 0 ≤ n ∧ n < 18446744073709551616 := by
  simp [Lit.wf, IntKind.min, IntKind.max, IntKind.bits, IntKind.signed] at h
  omega
theorem i64_of {n : Int} (h : (Lit.int .i64 n).wf = true) : In64 n := by
  simp [Lit.wf, IntKind.min, IntKind.max, IntKind.bits, IntKind.signed] at h
  exact h
theorem wide_cells {n : Nat} {cs : List Value} {y : DataW H × List MemPlace} (h : DataW.trod enc Try.prog w base spare held n 24 cs = some y) : ∃ x : X, cs = (wc x).toList := by
  obtain ⟨y0, y1, y2, m, _, hl, h0, h1, h2⟩ := trod_struct3 Try.underlying24 h
  have hc : Try.prog.cellsOf 24 = 3 := by kernel_rfl
  have h1c : Try.prog.cellsOf 22 = 1 := by kernel_rfl
  rw [hc] at hl
  match cs, hl with
  | [c0, c1, c2], _ =>
    simp [h1c] at h0 h1 h2
    obtain ⟨a, ea, _, wa⟩ := DataW.trod_int Try.underlying22 h0
    obtain ⟨b, eb, _, wb⟩ := DataW.trod_int Try.underlying22 h1
    obtain ⟨c, ec, _, wc'⟩ := DataW.trod_int Try.underlying22 h2
    simp only [List.cons.injEq, and_true] at ea eb ec
    subst ea eb ec
    obtain ⟨q1, q2, q3⟩ := mk_parts a b c (u64_of wa) (u64_of wb) (u64_of wc')
    exact ⟨mk a b c, by unfold wc; rw [q1, q2, q3]⟩
theorem two_cells {n : Nat} {cs : List Value} {y : DataW H × List MemPlace} (h : DataW.trod enc Try.prog w base spare held n 38 cs = some y) : ∃ a b : Int, cs = [.int .i64 a, .int .i64 b] ∧ In64 a ∧ In64 b := by
  obtain ⟨xs, m, _, _, hl, hn, hx⟩ := DataW.trod_array Try.underlying38 h
  have hc : Try.prog.cellsOf 38 = 2 := by kernel_rfl
  have h1c : Try.prog.cellsOf 2 = 1 := by kernel_rfl
  rw [hc] at hl
  match cs, hl, xs, hn with
  | [c0, c1], _, [y0, y1], _ =>
    have h0 := hx 0 (by omega)
    have h1 := hx 1 (by omega)
    simp [h1c] at h0 h1
    obtain ⟨a, ea, _, wa⟩ := DataW.trod_int Try.underlying2 h0
    obtain ⟨b, eb, _, wb⟩ := DataW.trod_int Try.underlying2 h1
    simp only [List.cons.injEq, and_true] at ea eb
    subst ea eb
    exact ⟨a, b, rfl, i64_of wa, i64_of wb⟩
theorem three_cells {n : Nat} {cs : List Value} {y : DataW H × List MemPlace} (h : DataW.trod enc Try.prog w base spare held n 44 cs = some y) : ∃ x y z : X, cs = (wc x ++ wc y ++ wc z).toList := by
  obtain ⟨xs, m, _, _, hl, hn, hx⟩ := DataW.trod_array Try.underlying44 h
  have hc : Try.prog.cellsOf 44 = 9 := by kernel_rfl
  have h1c : Try.prog.cellsOf 24 = 3 := by kernel_rfl
  rw [hc] at hl
  match cs, hl, xs, hn with
  | [c0, c1, c2, c3, c4, c5, c6, c7, c8], _, [y0, y1, y2], _ =>
    have h0 := hx 0 (by omega)
    have h1 := hx 1 (by omega)
    have h2 := hx 2 (by omega)
    simp [h1c] at h0 h1 h2
    obtain ⟨x, e0⟩ := wide_cells h0
    obtain ⟨y, e1⟩ := wide_cells h1
    obtain ⟨z, e2⟩ := wide_cells h2
    refine ⟨x, y, z, ?_⟩
    rw [Array.toList_append, Array.toList_append, ← e0, ← e1, ← e2]
    rfl
theorem open_wide {v : Value} {d : DataW H} {p : List MemPlace} (hv : Value.okWide Try.prog w r b0 24 v) (h : DataW.Trod enc Try.prog w base spare held 24 v d p) : ∃ x : X, v = .agg (wc x) := by
  obtain ⟨cs, rfl, _⟩ := okWide_struct Try.underlying24 hv
  obtain ⟨fuel, hf⟩ := h
  obtain ⟨x, hx⟩ := wide_cells hf
  exact ⟨x, congrArg Value.agg (Array.toList_inj.1 hx)⟩
theorem okWide_array {t e : TypeId} {n : Nat} {v : Value} (ht : Try.prog.underlying t = some (.array n e)) (h : Value.okWide Try.prog w r b0 t v) : ∃ cs, v = .agg cs := by
  simp only [Value.okWide, ht] at h
  obtain ⟨cs, h1, _⟩ := h
  exact ⟨cs, h1⟩
theorem open_two {v : Value} {d : DataW H} {p : List MemPlace} (hv : Value.okWide Try.prog w r b0 38 v) (h : DataW.Trod enc Try.prog w base spare held 38 v d p) : ∃ a b : Int, v = .agg #[.int .i64 a, .int .i64 b] ∧ In64 a ∧ In64 b := by
  obtain ⟨cs, rfl⟩ := okWide_array Try.underlying38 hv
  obtain ⟨fuel, hf⟩ := h
  obtain ⟨a, b, hx, ha, hb⟩ := two_cells hf
  exact ⟨a, b, congrArg Value.agg (Array.toList_inj.1 hx), ha, hb⟩
theorem open_three {v : Value} {d : DataW H} {p : List MemPlace} (hv : Value.okWide Try.prog w r b0 44 v) (h : DataW.Trod enc Try.prog w base spare held 44 v d p) : ∃ x y z : X, v = .agg (wc x ++ wc y ++ wc z) := by
  obtain ⟨cs, rfl⟩ := okWide_array Try.underlying44 hv
  obtain ⟨fuel, hf⟩ := h
  obtain ⟨x, y, z, hx⟩ := three_cells hf
  exact ⟨x, y, z, congrArg Value.agg (Array.toList_inj.1 hx)⟩
end
end Go.Proofs.Ytiiccjnfggojmaa

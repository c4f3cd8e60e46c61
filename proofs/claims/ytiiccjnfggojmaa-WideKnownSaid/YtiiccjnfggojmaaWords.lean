/-
  WORDS for the walks over package wide and its reference: a wide number as its three cells, as its six digits, blocks that are known whole, the library's Add64. No condition.
-/
import Derived.Test.YtiiccjnfggojmaaProg
import Derived.Test.YtiiccjnfggojmaaMath
import Derived.WalkKit
import Derived.WalkSpells
import Derived.WalkLawsBesides
import Derived.Laws.OwnMore
import Derived.Laws.Rows
import Derived.Laws.Tables
import Derived.Laws.CopyOwn
import Derived.Laws.Externs
import Derived.Laws.MathBits
import Derived.Laws.StructEq
import Derived.Deep.Draws
import Derived.Deep.WholeRow
import Derived.Deep.MidRow
import Derived.Deep.QuietTactic
import Derived.BigQuiet
import Derived.ChangeKeysEq
import Derived.Lib.Hide
namespace Go.Proofs.Ytiiccjnfggojmaa
open Go.RowKit Wd

/-- a wide number's cells. -/
def wc (x : X) : Array Value := #[.int .u64 (pa x), .int .u64 (pb x), .int .u64 (pc x)]
/-- its digits' cells. -/
def sc (x : X) : Array Value := #[.int .u64 (dg x 0), .int .u64 (dg x 1), .int .u64 (dg x 2), .int .u64 (dg x 3), .int .u64 (dg x 4), .int .u64 (dg x 5)]
theorem wc_size (x : X) : (wc x).size = 3 := rfl
theorem sc_size (x : X) : (sc x).size = 6 := rfl
theorem wc_all (x : X) : (wc x).all (·.oneCell') = true := by simp [wc, Value.oneCell']
theorem sc_all (x : X) : (sc x).all (·.oneCell') = true := by simp [sc, Value.oneCell']
theorem info24 : (Try.prog.info? 24).map (·.size) = some 3 := by kernel_rfl
theorem info52 : (Try.prog.info? 52).map (·.size) = some 6 := by kernel_rfl
theorem wc_info (x : X) : (Try.prog.info? 24).map (·.size) = some (wc x).size := info24
theorem sc_info (x : X) : (Try.prog.info? 52).map (·.size) = some (sc x).size := info52

/-- block g holds just these cells, of type t. -/
def Blk (w : World) (g : Nat) (t : TypeId) (cs : Array Value) : Prop := w.heap[g]? = some (.cells cs t (0, 0))
section
variable {w w' : World} {g : Nat} {t : TypeId} {cs : Array Value}
theorem Blk.eq (h : Blk w g t cs) : w.heap[g]? = some (.cells cs t (0, 0)) := h
theorem Blk.lt (h : Blk w g t cs) : g < w.heap.size := by
  rcases Nat.lt_or_ge g w.heap.size with h1 | h1
  · exact h1
  · unfold Blk at h; rw [Array.getElem?_eq_none h1] at h; cases h
theorem Blk.below {B : Nat} (h : Blk w g t cs) (hb : Below B w w') (hg : g < B) : Blk w' g t cs := (hb.block g hg).trans h
theorem Blk.cell (h : Blk w g t cs) (i : Nat) : w.cell? ⟨g, i, none⟩ = cs[i]? := cell_of_row w g i cs _ (0, 0) h
theorem Blk.free (h : Blk w g t cs) (i : Nat) : w.frozen? ⟨g, i, none⟩ = false := frozen_of_row w g i cs _ h
theorem Blk.drew (h : Blk w g t cs) : Blk w.drew g t cs := h
theorem Blk.alloc (h : Blk w g t cs) (o : Obj) : Blk (w.alloc o) g t cs := (Below.heap_alloc w o g h.lt).trans h
theorem Blk.new (w : World) (t : TypeId) (cs : Array Value) : Blk (w.alloc (.cells cs t)) w.heap.size t cs := heap_alloc_new w _
theorem Blk.set_ (h : Blk w g t cs) (i : Nat) (v : Value) : Blk (w.setCell ⟨g, i, none⟩ v) g t (cs.setIfInBounds i v) := heap_setCell_same w g i cs t v h
theorem Blk.far (h : Blk w g t cs) {a : Addr} (hg : g ≠ a.block) (v : Value) : Blk (w.setCell a v) g t cs := (heap_setCell_other w a g v hg).trans h
theorem Blk.row (h : Blk w g t cs) (cs' : Array Value) : Blk (w.setRow g cs') g t cs' := setRow_heap w g cs cs' t _ h
theorem Blk.rowFar (h : Blk w g t cs) {g' : Nat} (hg : g ≠ g') (cs' : Array Value) : Blk (w.setRow g' cs') g t cs := (setRow_other w g' g cs' hg).trans h
end
theorem wc_cell {w : World} {g : Nat} {x : X} (h : Blk w g 24 (wc x)) : w.cell? ⟨g, 0, none⟩ = some (.int .u64 (pa x)) ∧ w.cell? ⟨g, 1, none⟩ = some (.int .u64 (pb x)) ∧ w.cell? ⟨g, 2, none⟩ = some (.int .u64 (pc x)) :=
  ⟨h.cell 0, h.cell 1, h.cell 2⟩
theorem sc_cell {w : World} {g : Nat} {x : X} (h : Blk w g 52 (sc x)) (i : Nat) (hi : i < 6) : w.cell? ⟨g, i, none⟩ = some (.int .u64 (dg x i)) := by
  rw [h.cell i]
  obtain rfl | rfl | rfl | rfl | rfl | rfl : i = 0 ∨ i = 1 ∨ i = 2 ∨ i = 3 ∨ i = 4 ∨ i = 5 := by omega
  all_goals rfl

/-- the library's Add64. -/
theorem add64 (x y c : Int) (hx : 0 ≤ x) (hy : 0 ≤ y) (h0 : 0 ≤ c) (h1 : c ≤ 1) (w : World) :
    (callFunc 46 #[.int .u64 x, .int .u64 y, .int .u64 c]).run Try.prog w = .ok (.value (.tuple #[.int .u64 ((x + y + c) % 18446744073709551616), .int .u64 ((x + y + c) / 18446744073709551616)])) w := by
  rw [run_callFunc_extern Try.func46 (by kernel_rfl) (by kernel_rfl) (by kernel_rfl) (e := add64Entry) (by kernel_rfl), run_add64 x y c hx hy h0 h1]
  rfl
theorem ret_int {k : IntKind} {a b : Int} (h : a = b) : Ending.returned (.int k a) = .returned (.int k b) := by rw [h]

/-- the law on a load of many cells, the cells as an array. -/
theorem wpList_load_at {P : Program} {ops : Array Oper} {rest : List Oper} {o : Oper} {a : Act} {w : World} {Q : Exit → Act → World → Prop} (hgd : o.guard = none) (ty : TypeId) (x : Operand) (ho : o.op = .load ty x)
    (b off : Nat) (hx : a.eval x = .pointer (some ⟨b, off, none⟩)) (cs : Array Value) (d : TypeDesc) (hc : w.rangeAt b off cs.toList)
    (hu : P.underlying ty = some d) (hd : d.isRow = true) (hi : (P.info? ty).map (·.size) = some cs.size)
    (h : wpList P ops Q rest (a.put o.dst (.agg cs)) w) : wpList P ops Q (o :: rest) a w :=
  wpList_load_mid hgd ty x ho b off hx cs.toList d hc hu hd (by rw [Array.length_toList]; exact hi) (by rw [Array.toArray_toList]; exact h)
theorem Blk.range {w : World} {g : Nat} {t : TypeId} {cs : Array Value} (h : Blk w g t cs) : w.rangeAt g 0 cs.toList := fun j v hj => by
  rw [Nat.zero_add, h.cell j]
  simpa using hj
/-- what a call leaves that makes memory and hands back v. -/
theorem wp_region_below_lit {P : Program} {id : Nat} {Q : Exit → Act → World → Prop} {a : Act} {w : World} {l : List Oper} (b : Nat) (w0 : World) (hw : Below b w0 w) (hm : P.follows .mixedOrders = true) (hB : Region.lexB .any l.toArray = true)
    (h : wpQuiet P l.toArray (Below b w0) (fun a' => ∀ w', Below b w0 w' → Q .normal a' w') l a) : (Code.region id l.toArray true).wp P Q a w :=
  wp_region_quiet (C := Below b w0) hm hB hw.drew (by simpa using h)
end Go.Proofs.Ytiiccjnfggojmaa

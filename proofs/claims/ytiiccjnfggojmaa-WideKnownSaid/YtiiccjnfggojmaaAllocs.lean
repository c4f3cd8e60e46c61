/-
  REGIONS that draw their order: a head of operations that only read, whatever else may come up between; then what is left in any order: new variables, stores. No condition.
-/
import Derived.Test.YtiiccjnfggojmaaLFits
import Derived.OrdersHeld
namespace Go.Proofs.Ytiiccjnfggojmaa
open Go.RowKit Wd
section
variable {P : Program} {ops : Array Oper} {md : Region.Mode} {S : World → Prop} {Q : Exit → Act → World → Prop}
/-- the post, but 'False' at a panic. -/
def Calm (Q : Exit → Act → World → Prop) : Exit → Act → World → Prop
  | .panic _, _, _ => False
  | e, a, w => Q e a w
theorem wp_calm {id : Nat} {ops : Array Oper} {b : Bool} {a : Act} {w : World} (h : (Code.region id ops b).wp P (Calm Q) a w) : (Code.region id ops b).wp P Q a w :=
  Code.wp_mono (fun e a w h => by cases e <;> first | exact h | exact (h : False).elim) h
theorem calm_normal {a : Act} {w : World} (h : Q .normal a w) : Calm Q .normal a w := h
/-- operations that hand back a value and do nothing else. -/
def pureB : Op → Bool
  | .move _ | .assign _ | .load _ _ | .build _ _ | .indexAddr _ _ _ | .convert _ _ _ | .slice _ _ _ _ _ => true
  | _ => false
theorem value_of_quiet {C : World → Prop} {o : Oper} {a : Act} {w : World} {v : Value} (hp : pureB o.op = true) (h : o.quietAt P a C w v) : (execOp a.eval o).run P w = .ok (.value v) w := by
  unfold Oper.quietAt at h
  have key : (∃ u w', (execOp a.eval o).run P w = .ok (.value u) w') ∨ (∃ x w', (execOp a.eval o).run P w = .halt x w') := by
    obtain ⟨dst, op, ty, pos, after, guard⟩ := o
    cases op <;> simp only [pureB, Bool.false_eq_true] at hp <;> simp only [execOp, Sem.run_bind, Sem.run_pure]
    case move => exact .inl ⟨_, _, rfl⟩
    case assign => exact .inl ⟨_, _, rfl⟩
    all_goals
      generalize Sem.run P _ w = r
      cases r with
      | ok u w' => exact .inl ⟨u, w', rfl⟩
      | halt x w' => exact .inr ⟨x, w', rfl⟩
  rcases key with ⟨u, w', e⟩ | ⟨x, w', e⟩
  · rw [e] at h
    obtain ⟨rfl, rfl⟩ := h
    exact e
  · rw [e] at h
    exact h.elim
/-- the head is listed. -/
def headL : Nat → Nat → Array Bool → Array Bool
  | 0, _, listed => listed
  | f + 1, k, listed => headL f (k + 1) (listed.setIfInBounds k true)
def Region.openB (md : Region.Mode) (ops : Array Oper) : Nat → Nat → Array Bool → Bool
  | 0, _, _ => true
  | f + 1, k, listed => (Region.ready md ops listed).contains k && Region.free md ops listed k && Region.openB md ops f (k + 1) (listed.setIfInBounds k true)
theorem wpAnyH_takes {Lq : Act → Prop} {g : Nat} (hsel : Region.noSelect ops = true) (hQ : ∀ c a d v w, Q (.panic c) (a.put d v) w → Q (.panic c) a w) {w : World} (hw : S w) :
    ∀ (l : List Oper) (k : Nat) (listed : Array Bool) (a : Act), (∀ j, j < l.length → l[j]? = ops[k + j]?) → (l.all fun o => pureB o.op) = true → Region.openB md ops l.length k listed = true →
    (∀ a', Lq a' → wpAnyH P md ops Q S g (headL l.length k listed) a' w) → wpQuiet P ops S Lq l a → wpAnyH P md ops Q S (l.length + g) listed a w
  | [], k, listed, a, _, _, _, hL, h => by
    have := hL a h
    simpa [headL] using this
  | o :: l, k, listed, a, hl, hp, hB, hL, h => by
    have h0 : ops[k]? = some o := by simpa using (hl 0 (by simp)).symm
    simp only [List.length_cons, Region.openB, Bool.and_eq_true] at hB
    obtain ⟨⟨hr, hf⟩, hB'⟩ := hB
    simp only [List.all_cons, Bool.and_eq_true] at hp
    have hst : qOp P ops S k (wpQuiet P ops S Lq l) a := by unfold qOp; simp only [h0]; exact h
    obtain ⟨v, hy, hK⟩ := yieldsIn_of_qOp h0 hst
    have hy' : YieldsIf P ops S o v a := hy.imp (fun ⟨hw, hv⟩ => ⟨hw, fun w' hw' => value_of_quiet hp.1 (hv w' hw')⟩) id
    rw [List.length_cons, show l.length + 1 + g = (l.length + g) + 1 by omega]
    exact wpAnyH_take h0 hsel hf hr (fun c a' w' => hQ c a' _ _ w') hy' hw
      (wpAnyH_takes hsel hQ hw l (k + 1) _ _ (fun j hj => by have := hl (j + 1) (by simp; omega); simpa [Nat.add_assoc, Nat.add_comm 1 j] using this) hp.2 hB' hL hK)
/-- the beginning: a head of n operations that only read; the region does not panic. -/
theorem wp_region_open {id : Nat} {a : Act} {w : World} {l : List Oper} (n b : Nat) (w0 : World) (hw : Below b w0 w) (hm : P.follows .mixedOrders = true)
    (hsel : Region.noSelect l.toArray = true) (hn : n ≤ l.length) (hp : ((l.take n).all fun o => pureB o.op) = true) (hB : Region.openB .any l.toArray n 0 (Array.replicate l.length false) = true)
    (h : wpQuiet P l.toArray (Below b w0) (fun a' => wpAnyH P .any l.toArray (Calm Q) (Below b w0) (l.length - n) (headL n 0 (Array.replicate l.length false)) a' w.drew) (l.take n) a) : (Code.region id l.toArray true).wp P Q a w := by
  refine wp_calm (wp_region_held (S := Below b w0) hm ?_)
  have htl : (l.take n).length = n := by simp; omega
  have H := wpAnyH_takes (S := Below b w0) (g := l.length - n) hsel (fun _ _ _ _ _ h => h) (w := w.drew) hw.drew (l.take n) 0 (Array.replicate l.length false) a (fun j hj => by
    have hj' : j < n := by rw [htl] at hj; exact hj
    simp [hj']) hp (by rw [htl]; exact hB) (fun a' ha' => by rw [htl]; exact ha') h
  rw [htl, show n + (l.length - n) = l.length by omega] at H
  have e : l.toArray.size = l.length := by simp
  rw [e]
  exact H
/-- a new wide number, 0. -/
def Zw : Obj := .cells (wc (ofI 0)) 24
theorem oper_alloc {o : Oper} {a : Act} {w : World} {K : Act → World → Prop} {Q : Exit → Act → World → Prop} (ho : o.op = .alloc 24) (h : K (a.put o.dst (.pointer (some ⟨w.heap.size, 0, none⟩))) (w.alloc Zw)) : o.wp Try.prog a w K Q := by
  have e : (Instr.alloc 24 true (.tuple #[])).run Try.prog w = .ok (.pointer (some ⟨w.heap.size, 0, none⟩)) (w.alloc Zw) := by
    unfold Zw
    rw [← wc_zero]
    kernel_rfl
  unfold Oper.wp execOp
  simp only [ho, Sem.run_bind, e, Result.andThen_ok, Sem.run_pure]
  exact h
theorem allocH {fuel i : Nat} {listed : Array Bool} {a : Act} {w : World} {o : Oper} (hi : ops[i]? = some o) (hg : o.guard = none) (ho : o.op = .alloc 24) (hS : S (w.alloc Zw))
    (h : wpAnyH Try.prog md ops Q S fuel (listed.setIfInBounds i true) (a.put o.dst (.pointer (some ⟨w.heap.size, 0, none⟩))) (w.alloc Zw)) :
    wpOp Try.prog ops Q i (fun a' w' => S w' ∧ wpAnyH Try.prog md ops Q S fuel (listed.setIfInBounds i true) a' w') a w := by
  unfold wpOp
  simp only [hi]
  rw [if_pos (by simp [Region.wanted, hg])]
  exact .inl (oper_alloc ho ⟨hS, h⟩)
def ready2B (md : Region.Mode) (ops : Array Oper) (listed : Array Bool) (i j : Nat) : Bool :=
  decide (Region.ready md ops listed = [i, j]) && decide (Region.ready md ops (listed.setIfInBounds i true) = [j]) && decide (Region.ready md ops (listed.setIfInBounds j true) = [i])
def ready3B (md : Region.Mode) (ops : Array Oper) (listed : Array Bool) (i j k : Nat) : Bool :=
  decide (Region.ready md ops listed = [i, j, k]) && ready2B md ops (listed.setIfInBounds i true) j k && ready2B md ops (listed.setIfInBounds j true) i k && ready2B md ops (listed.setIfInBounds k true) i j
/-- an operation that makes a wide number, in slot x. -/
def AllocAt (ops : Array Oper) (i : Nat) (x : Tmp) : Prop := ∃ o, ops[i]? = some o ∧ o.guard = none ∧ o.op = .alloc 24 ∧ o.dst = some x
def ptr (g : Nat) : Value := .pointer (some ⟨g, 0, none⟩)
theorem put_swap (a : Act) (x y : Tmp) (u v : Value) (h : x ≠ y) : (a.put (some x) u).put (some y) v = (a.put (some y) v).put (some x) u := Act.put_comm a u v (by intro d h1 h2; injection h1 with h1; injection h2 with h2; exact h (h1.trans h2.symm))
/-- two of them, whichever comes first. -/
theorem wpAnyH_alloc2 {f i j : Nat} {x y : Tmp} {listed : Array Bool} {a : Act} {w : World} (hxy : x ≠ y) (hij : i ≠ j) (hi : AllocAt ops i x) (hj : AllocAt ops j y) (hB : ready2B md ops listed i j = true)
    (hS : ∀ w, S w → S (w.alloc Zw)) (hw : S w)
    (h : ∀ g g', ((g = w.heap.size ∧ g' = w.heap.size + 1) ∨ (g = w.heap.size + 1 ∧ g' = w.heap.size)) →
      wpAnyH Try.prog md ops Q S f ((listed.setIfInBounds i true).setIfInBounds j true) ((a.put (some x) (ptr g)).put (some y) (ptr g')) ((w.alloc Zw).alloc Zw)) : wpAnyH Try.prog md ops Q S (f + 1 + 1) listed a w := by
  obtain ⟨oi, i1, i2, i3, i4⟩ := hi
  obtain ⟨oj, j1, j2, j3, j4⟩ := hj
  simp only [ready2B, Bool.and_eq_true, decide_eq_true_eq] at hB
  obtain ⟨⟨r0, r1⟩, r2⟩ := hB
  refine wpAnyH_all r0 (by simp) fun k hk => ?_
  have s1 := hS w hw
  have s2 := hS _ s1
  have hk' : k = i ∨ k = j := by simpa using hk
  rcases hk' with rfl | rfl
  · refine allocH i1 i2 i3 s1 (wpAnyH_all r1 (by simp) fun k' hk' => ?_)
    obtain rfl : k' = j := by simpa using hk'
    refine allocH j1 j2 j3 s2 ?_
    rw [i4, j4]
    have := h w.heap.size (w.heap.size + 1) (.inl ⟨rfl, rfl⟩)
    simpa [ptr] using this
  · refine allocH j1 j2 j3 s1 (wpAnyH_all r2 (by simp) fun k' hk' => ?_)
    obtain rfl : k' = i := by simpa using hk'
    refine allocH i1 i2 i3 s2 ?_
    rw [i4, j4, put_swap _ _ _ _ _ (Ne.symm hxy), Array.setIfInBounds_comm _ _ (Ne.symm hij)]
    have := h (w.heap.size + 1) w.heap.size (.inr ⟨rfl, rfl⟩)
    simpa [ptr] using this
/-- three. -/
theorem wpAnyH_alloc3 {f i j k : Nat} {x y z : Tmp} {listed : Array Bool} {a : Act} {w : World} (hxy : x ≠ y) (hxz : x ≠ z) (hyz : y ≠ z) (hij : i ≠ j) (hik : i ≠ k) (hjk : j ≠ k)
    (hi : AllocAt ops i x) (hj : AllocAt ops j y) (hk : AllocAt ops k z) (hB : ready3B md ops listed i j k = true)
    (hS : ∀ w, S w → S (w.alloc Zw)) (hw : S w)
    (h : ∀ g g' g'', (w.heap.size ≤ g ∧ g < w.heap.size + 3) ∧ (w.heap.size ≤ g' ∧ g' < w.heap.size + 3) ∧ (w.heap.size ≤ g'' ∧ g'' < w.heap.size + 3) ∧ g ≠ g' ∧ g ≠ g'' ∧ g' ≠ g'' →
      wpAnyH Try.prog md ops Q S f (((listed.setIfInBounds i true).setIfInBounds j true).setIfInBounds k true) (((a.put (some x) (ptr g)).put (some y) (ptr g')).put (some z) (ptr g'')) (((w.alloc Zw).alloc Zw).alloc Zw)) :
    wpAnyH Try.prog md ops Q S (f + 1 + 1 + 1) listed a w := by
  have HI := hi
  have HJ := hj
  have HK := hk
  obtain ⟨oi, i1, i2, i3, i4⟩ := hi
  obtain ⟨oj, j1, j2, j3, j4⟩ := hj
  obtain ⟨ok, k1, k2, k3, k4⟩ := hk
  simp only [ready3B, Bool.and_eq_true, decide_eq_true_eq] at hB
  obtain ⟨⟨⟨r0, r1⟩, r2⟩, r3⟩ := hB
  have s1 := hS w hw
  have sz : (w.alloc Zw).heap.size = w.heap.size + 1 := by simp
  refine wpAnyH_all r0 (by simp) fun m hm => ?_
  have hm' : m = i ∨ m = j ∨ m = k := by simpa using hm
  rcases hm' with rfl | rfl | rfl
  · refine allocH i1 i2 i3 s1 (wpAnyH_alloc2 hyz hjk HJ HK r1 hS s1 fun g g' hg => ?_)
    rw [sz] at hg
    rw [i4]
    exact h w.heap.size g g' (by omega)
  · refine allocH j1 j2 j3 s1 (wpAnyH_alloc2 hxz hik HI HK r2 hS s1 fun g g' hg => ?_)
    rw [sz] at hg
    rw [j4, put_swap _ _ _ _ _ (Ne.symm hxy), Array.setIfInBounds_comm _ _ (Ne.symm hij)]
    exact h g w.heap.size g' (by omega)
  · refine allocH k1 k2 k3 s1 (wpAnyH_alloc2 hxy hij HI HJ r3 hS s1 fun g g' hg => ?_)
    rw [sz] at hg
    rw [k4, put_swap _ _ _ _ _ (Ne.symm hxz), put_swap _ _ _ _ _ (Ne.symm hyz), Array.setIfInBounds_comm _ _ (Ne.symm hik), Array.setIfInBounds_comm _ _ (Ne.symm hjk)]
    exact h g g' w.heap.size (by omega)
theorem storeH {f i : Nat} {o : Oper} {listed : Array Bool} {a : Act} {w : World} (hr : Region.ready md ops listed = [i]) (hi : ops[i]? = some o) (hg : o.guard = none) (p q : Operand) (ho : o.op = .store 24 p q) (hd : o.dst = none)
    (g : Nat) (x old : X) (hp : a.eval p = .pointer (some ⟨g, 0, none⟩)) (hq : a.eval q = .agg (wc x)) (hb : Blk w g 24 (wc old)) (hS : S (w.setRow g (wc x)))
    (h : wpAnyH Try.prog md ops Q S f (listed.setIfInBounds i true) a (w.setRow g (wc x))) : wpAnyH Try.prog md ops Q S (f + 1) listed a w := by
  refine wpAnyH_all hr (by simp) fun k hk => ?_
  obtain rfl : k = i := by simpa using hk
  unfold wpOp
  simp only [hi]
  rw [if_pos (by simp [Region.wanted, hg])]
  refine .inl (wp_store_row 24 p q ho g (wc x) hp hq 24 (wc old) hb.eq (wc_info x) rfl (wc_all x) ?_)
  rw [hd]
  exact ⟨hS, h⟩
theorem below_zw {b : Nat} {w0 : World} (hb : b ≤ w0.heap.size) : ∀ w, Below b w0 w → Below b w0 (w.alloc Zw) := fun _ h => h.alloc (Nat.le_trans hb h.size) _
theorem blk_zw3 (w : World) (g : Nat) (h1 : w.heap.size ≤ g) (h2 : g < w.heap.size + 3) : Blk (((w.alloc Zw).alloc Zw).alloc Zw) g 24 (wc (ofI 0)) := by
  have a1 : Blk (w.alloc Zw) w.heap.size 24 (wc (ofI 0)) := Blk.new _ _ _
  have a2 : Blk ((w.alloc Zw).alloc Zw) (w.heap.size + 1) 24 (wc (ofI 0)) := by
    have h : Blk ((w.alloc Zw).alloc Zw) (w.alloc Zw).heap.size 24 (wc (ofI 0)) := Blk.new _ _ _
    simpa using h
  have a3 : Blk (((w.alloc Zw).alloc Zw).alloc Zw) (w.heap.size + 1 + 1) 24 (wc (ofI 0)) := by
    have h : Blk (((w.alloc Zw).alloc Zw).alloc Zw) ((w.alloc Zw).alloc Zw).heap.size 24 (wc (ofI 0)) := Blk.new _ _ _
    simpa using h
  obtain rfl | rfl | rfl : g = w.heap.size ∨ g = w.heap.size + 1 ∨ g = w.heap.size + 1 + 1 := by omega
  · exact (a1.alloc _).alloc _
  · exact a2.alloc _
  · exact a3
theorem blk_zw2 (w : World) (g : Nat) (h1 : w.heap.size ≤ g) (h2 : g < w.heap.size + 2) : Blk ((w.alloc Zw).alloc Zw) g 24 (wc (ofI 0)) := by
  have a1 : Blk (w.alloc Zw) w.heap.size 24 (wc (ofI 0)) := Blk.new _ _ _
  have a2 : Blk ((w.alloc Zw).alloc Zw) (w.heap.size + 1) 24 (wc (ofI 0)) := by
    have h : Blk ((w.alloc Zw).alloc Zw) (w.alloc Zw).heap.size 24 (wc (ofI 0)) := Blk.new _ _ _
    simpa using h
  obtain rfl | rfl : g = w.heap.size ∨ g = w.heap.size + 1 := by omega
  · exact a1.alloc _
  · exact a2
end
end Go.Proofs.Ytiiccjnfggojmaa

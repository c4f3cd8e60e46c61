/-
  REGIONS that draw their order, cut in two: a head whose operations are quiet in a class of worlds, and what is left, none of which may come up before the whole head is done. The head is walked by itself, as a region of its own (the library's law on quiet regions); what is left, from each world of the class on. No condition.
-/
import Derived.StillTail
import Derived.Deep.Quiet
import Derived.Deep.QuietTactic
import Derived.Below
namespace Go.Proofs.Ytiiccjnfggojmaa
open Go.RowKit
section
variable {P : Program} {md : Region.Mode} {C : World → Prop}
/-- the first n operations wait for nothing but what stands ahead of them, and are decided by one of themselves. -/
def headB (md : Region.Mode) (l : List Oper) (n : Nat) : Bool :=
  (List.range n).all fun i => match l[i]? with
    | some o => (o.after.all fun e => !Region.binds md e || decide (e.on < i)) && (match o.guard with | some (g, _) => decide (g < n) | none => true)
    | none => false
/-- number n waits, by way of others, for each of the first n; each later one waits for one from n on. -/
def gateB (md : Region.Mode) (l : List Oper) (n : Nat) : Bool :=
  ((List.range n).all fun i => (List.range (n + 1)).any fun j => decide (i < j) && Region.waitsFor md l.toArray j i) &&
    ((List.range l.length).all fun t => decide (t ≤ n) || (List.range t).any fun j => decide (n ≤ j) && Region.waitsFor md l.toArray t j)
/-- a head's listing, nothing behind it listed yet. -/
def ext (h : Array Bool) (m : Nat) : Array Bool := h ++ Array.replicate m false
theorem ext_lt {h : Array Bool} {m i : Nat} (hi : i < h.size) (d : Bool) : (ext h m).getD i d = h.getD i d := by
  simp [ext, Array.getElem?_append_left hi]
theorem ext_ge {h : Array Bool} {m i : Nat} (hi : h.size ≤ i) : (ext h m).getD i false = false := by
  simp only [ext, Array.getD_eq_getD_getElem?, Array.getElem?_append_right hi, Array.getElem?_replicate]
  split <;> rfl
theorem ext_set {h : Array Bool} {m i : Nat} (hi : i < h.size) : (ext h m).setIfInBounds i true = ext (h.setIfInBounds i true) m := by
  apply Array.ext_getElem?
  intro k
  simp only [ext, Array.getElem?_setIfInBounds, Array.size_append]
  by_cases hk : i = k
  · subst hk
    rw [if_pos rfl, if_pos (by omega), Array.getElem?_append_left (by simpa using hi), Array.getElem?_setIfInBounds, if_pos rfl, if_pos hi]
  · rw [if_neg hk]
    by_cases hs : k < h.size
    · rw [Array.getElem?_append_left hs, Array.getElem?_append_left (by simpa using hs), Array.getElem?_setIfInBounds, if_neg hk]
    · rw [Array.getElem?_append_right (by omega), Array.getElem?_append_right (by simp; omega)]
      simp
theorem ext_none (n m : Nat) : ext (Array.replicate n false) m = Array.replicate (n + m) false := by
  apply Array.ext_getElem?
  intro k
  simp only [ext, Array.getElem?_append, Array.getElem?_replicate, Array.size_replicate]
  by_cases hk : k < n
  · rw [if_pos hk, if_pos hk, if_pos (by omega)]
  · rw [if_neg hk]
    by_cases h2 : k < n + m
    · rw [if_pos (by omega), if_pos h2]
    · rw [if_neg (by omega), if_neg h2]
/-- with more fuel, too. -/
theorem wpAny_more {ops : Array Oper} {Q : Exit → Act → World → Prop} : ∀ (f : Nat) (listed : Array Bool) (a : Act) (w : World), wpAny P md ops Q f listed a w → wpAny P md ops Q (f + 1) listed a w
  | 0, _, _, _, h => ⟨fun _ => h.2, fun i hi => by rw [h.1] at hi; cases hi⟩
  | f + 1, _, _, _, h => ⟨h.1, fun i hi => wpOp_mono (fun a' w' => wpAny_more f _ a' w') (h.2 i hi)⟩
theorem wpAny_plus {ops : Array Oper} {Q : Exit → Act → World → Prop} (f : Nat) (listed : Array Bool) (a : Act) (w : World) (h : wpAny P md ops Q f listed a w) : ∀ k, wpAny P md ops Q (k + f) listed a w
  | 0 => by rw [Nat.zero_add]; exact h
  | k + 1 => by rw [show k + 1 + f = k + f + 1 by omega]; exact wpAny_more _ _ _ _ (wpAny_plus f listed a w h k)
section
variable {l : List Oper} {n : Nat}
theorem take_at {i : Nat} (hi : i < n) : (l.take n).toArray[i]? = l.toArray[i]? := by simp [List.getElem?_take_of_lt hi]
theorem headB_at (hB : headB md l n = true) {i : Nat} (hi : i < n) {o : Oper} (ho : l[i]? = some o) :
    (∀ e ∈ o.after, Region.binds md e = true → e.on < i) ∧ (∀ g b, o.guard = some (g, b) → g < n) := by
  have h := List.all_eq_true.1 hB i (List.mem_range.2 hi)
  simp only [ho, Bool.and_eq_true, Array.all_eq_true_iff_forall_mem, Bool.or_eq_true, Bool.not_eq_true', decide_eq_true_eq] at h
  refine ⟨fun e he hb => ?_, fun g b hg => ?_⟩
  · rcases h.1 e he with h1 | h1
    · rw [hb] at h1; cases h1
    · exact h1
  · have h2 := h.2
    simp only [hg, decide_eq_true_eq] at h2
    exact h2
theorem wanted_at {o : Oper} (hg : ∀ g b, o.guard = some (g, b) → g < n) (tmps : Array Value) : Region.wanted o (yielded (l.take n).toArray tmps) = Region.wanted o (yielded l.toArray tmps) := by
  unfold Region.wanted
  cases h : o.guard with
  | none => rfl
  | some gb =>
    obtain ⟨g, b⟩ := gb
    have e : yielded (l.take n).toArray tmps g = yielded l.toArray tmps g := by unfold yielded; rw [take_at (hg g b h)]
    simp only [e]
theorem qOp_at (hB : headB md l n = true) {i : Nat} (hi : i < n) {K : Act → Prop} {a : Act} (h : qOp P (l.take n).toArray C i K a) : qOp P l.toArray C i K a := by
  unfold qOp at *
  rw [take_at hi] at h
  cases ho : l.toArray[i]? with
  | none => simpa [ho] using h
  | some o =>
    simp only [ho] at h ⊢
    rw [wanted_at (headB_at hB hi (by simpa using ho)).2] at h
    exact h
theorem wpQuiet_at {Lq : Act → Prop} : ∀ (k : List Oper) (a : Act), (∀ o ∈ k, ∀ g b, o.guard = some (g, b) → g < n) → wpQuiet P l.toArray C Lq k a → wpQuiet P (l.take n).toArray C Lq k a
  | [], _, _, h => h
  | o :: k, a, hg, h => by
    have e := wanted_at (l := l) (hg o (by simp)) a.tmps
    have hk := fun a' => wpQuiet_at (Lq := Lq) k a' fun o' ho' => hg o' (by simp [ho'])
    unfold wpQuiet at h ⊢
    rw [e]
    split
    · rename_i hw
      rw [if_pos hw] at h
      exact Oper.quiet_mono hk h
    · rename_i hw
      rw [if_neg hw] at h
      exact hk _ h
/-- what is listed has all listed that it waits for. -/
def Shut (md : Region.Mode) (l : List Oper) (h : Array Bool) : Prop := ∀ (j : Nat) (o : Oper), l[j]? = some o → h.getD j false = true → ∀ e ∈ o.after, Region.binds md e = true → h.getD e.on false = true
theorem getD_one {h : Array Bool} {i : Nat} (hi : i < h.size) (d d' : Bool) : h.getD i d = h.getD i d' := by simp [hi]
theorem head_full (hn : n ≤ l.length) (hB : headB md l n = true) {h : Array Bool} (hs : h.size = n) (hr : Region.ready md (l.take n).toArray h = []) : h = Array.replicate n true := by
  have all : ∀ i, i < n → h.getD i false = true := by
    intro i
    induction i using Nat.strongRecOn with
    | _ i ih =>
      intro hi
      cases hc : h.getD i false with
      | true => rfl
      | false =>
        have ho : l[i]? = some l[i] := List.getElem?_eq_getElem (by omega)
        have : i ∈ Region.ready md (l.take n).toArray h := mem_ready.2 ⟨by rw [getD_one (by omega) true false, hc], l[i], by rw [take_at hi]; simp, fun e he hb => by
          have := (headB_at hB hi ho).1 e he hb
          exact ih e.on this (by omega)⟩
        rw [hr] at this
        cases this
  apply Array.ext_getElem?
  intro k
  rw [Array.getElem?_replicate]
  by_cases hk : k < n
  · have := all k hk
    rw [if_pos hk]
    have hk' : k < h.size := by omega
    simp only [Array.getD_eq_getD_getElem?, Array.getElem?_eq_getElem hk', Option.getD_some] at this
    rw [Array.getElem?_eq_getElem hk', this]
  · rw [if_neg hk, Array.getElem?_eq_none (by omega)]
/-- nothing behind the head comes up while one of the head is not listed. -/
theorem gate_shut (hG : gateB md l n = true) {h : Array Bool} {m : Nat} (hs : h.size = n) (hS : Shut md l h) {t : Nat} (ht : n ≤ t) (hr : t ∈ Region.ready md l.toArray (ext h m)) : ∀ i, i < n → h.getD i false = true := by
  simp only [gateB, Bool.and_eq_true] at hG
  obtain ⟨_, o, ho, hall⟩ := mem_ready.1 hr
  have htl : t < l.length := by have := (Array.getElem?_eq_some_iff.1 ho).1; simpa using this
  by_cases htn : t ≤ n
  · obtain rfl : t = n := by omega
    have key : ∀ d i, t - i = d → i < t → h.getD i false = true := by
      intro d
      induction d using Nat.strongRecOn with
      | _ d ih =>
        intro i hd hi
        obtain ⟨j, hj, hj2⟩ := List.any_eq_true.1 (List.all_eq_true.1 hG.1 i (List.mem_range.2 hi))
        simp only [Bool.and_eq_true, decide_eq_true_eq] at hj2
        have hjt := List.mem_range.1 hj
        obtain ⟨oj, hoj, e, he, hb, rfl⟩ := Region.waitsFor_spec hj2.2
        by_cases hjn : j = t
        · subst hjn
          obtain rfl : oj = o := Option.some.inj (hoj.symm.trans ho)
          have := hall e he hb
          rwa [ext_lt (by omega)] at this
        · exact hS j oj (by simpa using hoj) (ih (t - j) (by omega) j rfl (by omega)) e he hb
    exact fun i hi => key _ i rfl hi
  · have h1 := List.all_eq_true.1 hG.2 t (List.mem_range.2 htl)
    simp only [Bool.or_eq_true, decide_eq_true_eq] at h1
    rcases h1 with h1 | h1
    · exact absurd h1 htn
    · obtain ⟨j, _, hj2⟩ := List.any_eq_true.1 h1
      simp only [Bool.and_eq_true, decide_eq_true_eq] at hj2
      obtain ⟨oj, hoj, e, he, hb, rfl⟩ := Region.waitsFor_spec hj2.2
      obtain rfl : oj = o := Option.some.inj (hoj.symm.trans ho)
      have := hall e he hb
      rw [ext_ge (by omega)] at this
      cases this
/-- the head's own orders, then what is left. -/
theorem wpAny_cut {Lq : Act → Prop} {Q : Exit → Act → World → Prop} {g : Nat} (hn : n ≤ l.length) (hB : headB md l n = true) (hG : gateB md l n = true)
    (hL : ∀ a w, C w → Lq a → wpAny P md l.toArray Q g (ext (Array.replicate n true) (l.length - n)) a w) :
    ∀ (f : Nat) (h : Array Bool) (a : Act) (w : World), h.size = n → Shut md l h → C w → wpAnyQ P md (l.take n).toArray C Lq f h a → wpAny P md l.toArray Q (f + g) (ext h (l.length - n)) a w
  | 0, h, a, w, hs, _, hw, H => by
    rw [head_full hn hB hs H.1, Nat.zero_add]
    exact hL a w hw H.2
  | f + 1, h, a, w, hs, hS, hw, H => by
    by_cases hr : Region.ready md (l.take n).toArray h = []
    · rw [head_full hn hB hs hr]
      exact wpAny_plus g _ a w (hL a w hw (H.1 hr)) (f + 1)
    · obtain ⟨i0, hi0⟩ := List.exists_mem_of_ne_nil _ hr
      obtain ⟨u0, o0, ho0, hall0⟩ := mem_ready.1 hi0
      have hin0 : i0 < n := by have := (Array.getElem?_eq_some_iff.1 ho0).1; simp at this; omega
      rw [show f + 1 + g = (f + g) + 1 by omega]
      refine ⟨fun h0 => ?_, fun i hi => ?_⟩
      · have : i0 ∈ Region.ready md l.toArray (ext h (l.length - n)) := mem_ready.2 ⟨by rw [ext_lt (by omega)]; exact u0, o0, by rw [← take_at hin0]; exact ho0, fun e he hb => by
          have h1 := (headB_at hB hin0 (by rw [take_at hin0] at ho0; simpa using ho0)).1 e he hb
          rw [ext_lt (by omega)]
          exact hall0 e he hb⟩
        rw [h0] at this
        cases this
      · have hin : i < n := by
          rcases Nat.lt_or_ge i n with h1 | h1
          · exact h1
          · have := gate_shut hG hs hS h1 hi i0 hin0
            rw [getD_one (by omega) false true, u0] at this
            cases this
        obtain ⟨u, o, ho, hall⟩ := mem_ready.1 hi
        rw [ext_lt (by omega)] at u
        have hol : l[i]? = some o := by simpa using ho
        have hir : i ∈ Region.ready md (l.take n).toArray h := mem_ready.2 ⟨u, o, by rw [take_at hin]; exact ho, fun e he hb => by
          have h1 := (headB_at hB hin hol).1 e he hb
          have h2 := hall e he hb
          rwa [ext_lt (by omega)] at h2⟩
        refine wpOp_of_qOp hw (fun a' w' hw' hK => ?_) (qOp_at hB hin (H.2 i hir))
        rw [ext_set (by omega)]
        refine wpAny_cut hn hB hG hL f (h.setIfInBounds i true) a' w' (by simpa using hs) (fun j oj hj hl e he hb => ?_) hw' hK
        by_cases hij : i = j
        · subst hij
          obtain rfl : oj = o := Option.some.inj (hj.symm.trans hol)
          have h1 := (headB_at hB hin hol).1 e he hb
          have h2 := hall e he hb
          rw [ext_lt (by omega)] at h2
          exact getD_set_true h2
        · rw [getD_set_ne false hij] at hl
          exact getD_set_true (hS j oj hj hl e he hb)
/-- the head's Bools. -/
def cutB (md : Region.Mode) (l : List Oper) (n : Nat) : Bool :=
  decide (n ≤ l.length) && Region.noSelect (l.take n).toArray && Region.lexFrom md (l.take n).toArray n 0 (Array.replicate n false) && headB md l n && gateB md l n
/-- a region cut behind n quiet operations. -/
theorem wp_region_cut {id g : Nat} {Lq : Act → Prop} {Q : Exit → Act → World → Prop} {a : Act} {w : World} (hw : C { w with drawn := w.drawn + 1 }) (hm : P.follows .mixedOrders = true) (hB : cutB .any l n = true) (hg : n + g = l.length)
    (hL : ∀ a w, C w → Lq a → wpAny P .any l.toArray Q g (ext (Array.replicate n true) (l.length - n)) a w) (h : wpQuiet P l.toArray C Lq (l.take n) a) : (Code.region id l.toArray true).wp P Q a w := by
  simp only [cutB, Bool.and_eq_true, decide_eq_true_eq] at hB
  obtain ⟨⟨⟨⟨hn, hsel⟩, hlex⟩, hH⟩, hG⟩ := hB
  have htl : (l.take n).length = n := by simp; omega
  have H := wpAnyQ_lex (md := .any) (C := C) (P := P) (Q := Lq) hsel (l.take n) 0 (Array.replicate n false) a (fun j => by simp) (by rw [htl]; exact hlex) (wpQuiet_at (l := l) _ a (fun o ho g b hgd => by
    obtain ⟨i, hi, rfl⟩ := List.getElem_of_mem ho
    have hi' : i < n := by simp at hi; omega
    exact (headB_at hH hi' (o := (l.take n)[i]) (by rw [List.getElem_take]; exact List.getElem?_eq_getElem (by omega))).2 g b hgd) h)
  rw [htl] at H
  have G := wpAny_cut hn hH hG hL n (Array.replicate n false) a { w with drawn := w.drawn + 1 } (by simp) (fun j o _ hl => by rw [getD_replicate_false] at hl; cases hl) hw H
  rw [ext_none, show n + (l.length - n) = l.length by omega, hg] at G
  refine wp_region_any hm ?_
  have e : l.toArray.size = l.length := by simp
  rw [e]
  exact G
end
/-- quiet operations, then a tail in one order. -/
def tailB (l : List Oper) (n : Nat) : Bool := cutB .any l n && Region.seqB .any l.toArray (l.length - n) n (ext (Array.replicate n true) (l.length - n))
theorem wp_region_tail {id : Nat} {Q : Exit → Act → World → Prop} {a : Act} {w : World} {l : List Oper} (n b : Nat) (w0 : World) (hw : Below b w0 w) (hm : P.follows .mixedOrders = true) (hB : tailB l n = true)
    (h : wpQuiet P l.toArray (Below b w0) (fun a' => ∀ w', Below b w0 w' → wpList P l.toArray Q (l.drop n) a' w') (l.take n) a) : (Code.region id l.toArray true).wp P Q a w := by
  simp only [tailB, Bool.and_eq_true] at hB
  have hn : n ≤ l.length := by have := hB.1; simp only [cutB, Bool.and_eq_true, decide_eq_true_eq] at this; exact this.1.1.1.1
  refine wp_region_cut (C := Below b w0) (g := l.length - n) hw.drew hm hB.1 (by omega) (fun a' w' hC hL => ?_) h
  have hdl : (l.drop n).length = l.length - n := by simp
  have := wpAny_of_seq (P := P) (md := .any) (Q' := Q) (l.drop n) n (ext (Array.replicate n true) (l.length - n)) a' w' (fun j => by simp) (by rw [hdl]; exact hB.2) (hL w' hC)
  rwa [hdl] at this
/-- quiet operations, one operation that is not, quiet operations again, in a class of worlds that begins behind it. -/
def oneB (l : List Oper) (n : Nat) : Bool :=
  cutB .any l n && Region.noSelect l.toArray && decide (Region.ready .any l.toArray (ext (Array.replicate n true) (l.length - n)) = [n]) && Region.lexFrom .any l.toArray (l.length - n - 1) (n + 1) ((ext (Array.replicate n true) (l.length - n)).setIfInBounds n true)
theorem wp_region_one {id : Nat} {Q : Exit → Act → World → Prop} {a : Act} {w : World} {l : List Oper} {on : Oper} (n b : Nat) (w0 : World) (hw : Below b w0 w) (hm : P.follows .mixedOrders = true) (hon : l[n]? = some on) (hB : oneB l n = true)
    (h : wpQuiet P l.toArray (Below b w0) (fun a' => Region.wanted on (yielded l.toArray a'.tmps) = true ∧ ∀ w', Below b w0 w' → on.wp P a' w' (fun a2 w2 => wpQuiet P l.toArray (Below w2.heap.size w2) (fun a3 => ∀ w3, Below w2.heap.size w2 w3 → Q .normal a3 w3) (l.drop (n + 1)) a2) Q) (l.take n) a) :
    (Code.region id l.toArray true).wp P Q a w := by
  simp only [oneB, Bool.and_eq_true, decide_eq_true_eq] at hB
  obtain ⟨⟨⟨hcut, hsel⟩, hr⟩, hlex⟩ := hB
  have hn : n < l.length := (List.getElem?_eq_some_iff.1 hon).1
  refine wp_region_cut (C := Below b w0) (g := l.length - n - 1 + 1) hw.drew hm hcut (by omega) (fun a' w' hC hL => ?_) h
  obtain ⟨hwant, hwp⟩ := hL
  refine ⟨fun h0 => (by rw [hr] at h0; cases h0), fun i hi => ?_⟩
  obtain rfl : i = n := by rw [hr] at hi; simpa using hi
  have hi' : l.toArray[i]? = some on := by simpa using hon
  unfold wpOp
  simp only [hi']
  rw [if_pos hwant]
  refine .inl (Oper.wp_mono (fun a2 w2 hq => ?_) (hwp w' hC))
  have hdl : (l.drop (i + 1)).length = l.length - i - 1 := by simp; omega
  have H := wpAnyQ_lex (C := Below w2.heap.size w2) (md := .any) (P := P) (ops := l.toArray) hsel (l.drop (i + 1)) (i + 1) _ a2 (fun j => by simp) (by rw [hdl]; exact hlex) hq
  rw [hdl] at H
  exact wpAny_of_quiet (Q := fun a3 => ∀ w3, Below w2.heap.size w2 w3 → Q .normal a3 w3) (fun a3 w3 hw3 hq3 => hq3 w3 hw3) _ _ _ _ (Below.refl _ _) H
end
end Go.Proofs.Ytiiccjnfggojmaa

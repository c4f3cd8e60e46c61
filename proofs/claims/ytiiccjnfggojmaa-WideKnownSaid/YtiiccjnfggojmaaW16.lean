/-
  WALKS, 16: Bring; regions whose reading operations stand between others; parts of a row of pairs; what the round does to pairs. No condition.
-/
import Derived.Test.YtiiccjnfggojmaaLDots
import Derived.Test.YtiiccjnfggojmaaAllocs
namespace Go.Proofs.Ytiiccjnfggojmaa
open Go.RowKit Wd

set_option maxHeartbeats 400000 in
theorem bring_any (i n : Int) (hi : In64 i) (h1 : 1 ≤ n) (h2 : n ≤ 9223372036854775807) (w : World) :
    Calls Try.prog 27 #[.int .i64 i, .int .i64 n] w fun e w' => e = .returned (.int .i64 (i % n)) ∧ w = w' := by
  obtain ⟨hlo, hhi⟩ := hi
  have r0 := Int.emod_nonneg i (show n ≠ 0 by omega)
  have r1 := Int.emod_lt_of_pos i (show 0 < n by omega)
  by_cases hp : 0 ≤ i
  · go_enter Try.func27, Try.ntmps27
    go_wp2
    go_ret
    exact ⟨rfl, rfl⟩
  · obtain ⟨t, ht⟩ : ∃ t, t = i.tmod n := ⟨_, rfl⟩
    have e := Int.tmod_eq_emod (a := i) (b := n)
    rw [← ht] at e
    have hab : (n.natAbs : Int) = n := by omega
    by_cases hneg : t < 0
    · have e2 : t + n = i % n := by split at e <;> omega
      have He2 := Lib.hid e2
      have b0 : 0 ≤ t + n := by omega
      have b1 : t + n < n := by omega
      clear e e2 hab
      have ht' := ht.symm
      clear ht
      go_enter Try.func27, Try.ntmps27
      go_wp2
      go_ret
      exact ⟨ret_int He2.out, rfl⟩
    · have e2 : t = i % n := by split at e <;> omega
      have He2 := Lib.hid e2
      clear e e2 hab
      have ht' := ht.symm
      clear ht
      go_enter Try.func27, Try.ntmps27
      go_wp2
      go_ret
      exact ⟨ret_int He2.out, rfl⟩
section
variable {P : Program} {ops : Array Oper} {md : Region.Mode} {S : World → Prop} {Q : Exit → Act → World → Prop}
def headI : List Nat → Array Bool → Array Bool
  | [], listed => listed
  | k :: ks, listed => headI ks (listed.setIfInBounds k true)
def Region.openIB (md : Region.Mode) (ops : Array Oper) : List Nat → Array Bool → Bool
  | [], _ => true
  | k :: ks, listed => (Region.ready md ops listed).contains k && Region.free md ops listed k && Region.openIB md ops ks (listed.setIfInBounds k true)
theorem wpAnyH_takesI {Lq : Act → Prop} {g : Nat} (hsel : Region.noSelect ops = true) (hQ : ∀ c a d v w, Q (.panic c) (a.put d v) w → Q (.panic c) a w) {w : World} (hw : S w) :
    ∀ (ks : List Nat) (l : List Oper) (listed : Array Bool) (a : Act), l.map some = ks.map (fun k => ops[k]?) → (l.all fun o => pureB o.op) = true → Region.openIB md ops ks listed = true →
    (∀ a', Lq a' → wpAnyH P md ops Q S g (headI ks listed) a' w) → wpQuiet P ops S Lq l a → wpAnyH P md ops Q S (ks.length + g) listed a w
  | [], l, listed, a, hl, _, _, hL, h => by
    have : l = [] := by simpa using hl
    subst this
    have := hL a h
    simpa [headI] using this
  | k :: ks, [], _, _, hl, _, _, _, _ => by simp at hl
  | k :: ks, o :: l, listed, a, hl, hp, hB, hL, h => by
    simp only [List.map_cons, List.cons.injEq] at hl
    obtain ⟨h0', hl'⟩ := hl
    have h0 := h0'.symm
    simp only [Region.openIB, Bool.and_eq_true] at hB
    obtain ⟨⟨hr, hf⟩, hB'⟩ := hB
    simp only [List.all_cons, Bool.and_eq_true] at hp
    have hst : qOp P ops S k (wpQuiet P ops S Lq l) a := by unfold qOp; simp only [h0]; exact h
    obtain ⟨v, hy, hK⟩ := yieldsIn_of_qOp h0 hst
    have hy' : YieldsIf P ops S o v a := hy.imp (fun ⟨hw, hv⟩ => ⟨hw, fun w' hw' => value_of_quiet hp.1 (hv w' hw')⟩) id
    rw [List.length_cons, show ks.length + 1 + g = (ks.length + g) + 1 by omega]
    exact wpAnyH_take h0 hsel hf hr (fun c a' w' => hQ c a' _ _ w') hy' hw (wpAnyH_takesI hsel hQ hw ks l _ _ hl' hp.2 hB' hL hK)
/-- the beginning: the operations of these numbers only read; the region does not panic. -/
theorem wp_region_openI {id : Nat} {a : Act} {w : World} {l : List Oper} (ks : List Nat) (hd : List Oper) (b : Nat) (w0 : World) (hw : Below b w0 w) (hm : P.follows .mixedOrders = true)
    (hks : hd.map some = ks.map (fun k => l.toArray[k]?)) (hsel : Region.noSelect l.toArray = true) (hn : ks.length ≤ l.length) (hp : (hd.all fun o => pureB o.op) = true) (hB : Region.openIB .any l.toArray ks (Array.replicate l.length false) = true)
    (h : wpQuiet P l.toArray (Below b w0) (fun a' => wpAnyH P .any l.toArray (Calm Q) (Below b w0) (l.length - ks.length) (headI ks (Array.replicate l.length false)) a' w.drew) hd a) : (Code.region id l.toArray true).wp P Q a w := by
  refine wp_calm (wp_region_held (S := Below b w0) hm ?_)
  have H := wpAnyH_takesI (S := Below b w0) (g := l.length - ks.length) hsel (fun _ _ _ _ _ h => h) (w := w.drew) hw.drew ks hd (Array.replicate l.length false) a hks hp hB (fun a' ha' => ha') h
  rw [show ks.length + (l.length - ks.length) = l.length by omega] at H
  have e : l.toArray.size = l.length := by simp
  rw [e]
  exact H
/-- the one operation that may come up. -/
theorem stepH {f i : Nat} {o : Oper} {listed : Array Bool} {a : Act} {w : World} (hr : Region.ready md ops listed = [i]) (hi : ops[i]? = some o) (hg : o.guard = none)
    (h : ∀ K : Act → World → Prop, (∀ a' w', S w' → wpAnyH P md ops Q S f (listed.setIfInBounds i true) a' w' → K a' w') → o.wp P a w K Q) : wpAnyH P md ops Q S (f + 1) listed a w := by
  refine wpAnyH_all hr (by simp) fun k hk => ?_
  obtain rfl : k = i := by simpa using hk
  unfold wpOp
  simp only [hi]
  rw [if_pos (by simp [Region.wanted, hg])]
  exact .inl (h _ fun a' w' h1 h2 => ⟨h1, h2⟩)
end
theorem wp_new40 {o : Oper} {a : Act} {w : World} {K : Act → World → Prop} {Q : Exit → Act → World → Prop} (ho : o.op = .buildSlice 40 0 #[]) (h : K (a.put o.dst (.slice (some ⟨w.heap.size, 0, none⟩) 0 0)) (w.alloc (.cells #[] 38))) : o.wp Try.prog a w K Q := by
  have e : (Instr.buildSlice 40 0 #[]).run Try.prog w = .ok (.slice (some ⟨w.heap.size, 0, none⟩) 0 0) (w.alloc (.cells #[] 38)) := by kernel_rfl
  unfold Oper.wp execOp
  simp only [ho, Array.map_empty, Sem.run_bind, e, Result.andThen_ok, Sem.run_pure]
  exact h
theorem wp_assign {o : Oper} {a : Act} {w : World} {K : Act → World → Prop} {Q : Exit → Act → World → Prop} (x : Operand) (v : Value) (ho : o.op = .assign x) (hv : a.eval x = v) (h : K (a.put o.dst v) w) : o.wp Try.prog a w K Q := by
  unfold Oper.wp execOp
  simp only [ho, hv, Sem.run_pure]
  exact h
theorem POwn.set2 {w : World} {base cap g : Nat} {l : List (Int × Int)} (h : POwn w base (some ⟨g, 0, none⟩) cap l) (k : Nat) (hk : k < l.length) (u : Int × Int) :
    POwn ((w.setCell ⟨g, k * 2, none⟩ (.int .i64 u.1)).setCell ⟨g, k * 2 + 1, none⟩ (.int .i64 u.2)) base (some ⟨g, 0, none⟩) cap (l.set k u) := by
  have e1 := (World.ownsRow.stored h (k * 2) (.int .i64 u.1)).1
  have e2 := (World.ownsRow.stored e1 (k * 2 + 1) (.int .i64 u.2)).1
  rw [PV_set l k u hk] at e2
  unfold POwn
  rw [List.length_set]
  exact e2
theorem POwn.there {w : World} {base cap g : Nat} {l : List (Int × Int)} (h : POwn w base (some ⟨g, 0, none⟩) cap l) {k : Nat} (hk : k < l.length) : w.there g (k * 2) 2 := by
  obtain ⟨e0, e1⟩ := h.cell hk
  intro j hj
  obtain rfl | rfl : j = 0 ∨ j = 1 := by omega
  · exact ⟨by rw [Nat.add_zero, e0]; rfl, h.free _⟩
  · exact ⟨by rw [e1]; rfl, h.free _⟩
theorem sized38 : (Try.prog.info? 38).map (·.size) = some 2 := by kernel_rfl
theorem elem40 : Try.prog.elem 40 = 38 := by kernel_rfl
theorem size38 (w : World) : (sizeOf 38).run Try.prog w = .ok 2 w := by
  obtain ⟨i, hi, _, _, _⟩ := info_parts info38
  rw [run_sizeOf w hi, show Try.prog.cellsOf 38 = 2 by kernel_rfl]
theorem und40 : Try.prog.underlying 40 = some (.slice (Try.prog.elem 40)) := by rw [elem40]; exact Try.underlying40
/-- parts of a row of pairs, in a region that draws. -/
theorem quiet_drop {b : Nat} {w0 : World} {o : Oper} {a : Act} {K : Act → Prop} (x lo : Operand) (ho : o.op = .slice 40 x (some lo) none none) (A A3 : Option Addr) (n cap k m : Nat) (hx : a.eval x = .slice A n cap) (hl : a.eval lo = .int .i64 (k : Int)) (hk : k ≤ n)
    (hA : (if cap = k then A else A.map (·.add (k * 2))) = A3) (hm : n - k = m) (hK : K (a.put o.dst (.slice A3 m (cap - k)))) : o.quiet Try.prog a (Below b w0) K := by
  refine quiet_of_exec (fun w => ?_) hK
  subst hA
  subst hm
  unfold execOp
  simp only [ho, hx, hl, Option.map_some, Option.map_none, Sem.run_bind, Sem.run_pure]
  rw [run_sliceAt_slice w 40 _ _ _ _ und40, run_slice_l w 40 A n cap und40 .i64 (k : Int) (by omega) (by omega), elem40, size38]
  simp only [Result.andThen_ok, sliced, Int.toNat_natCast]
theorem quiet_front {b : Nat} {w0 : World} {o : Oper} {a : Act} {K : Act → Prop} (x hi : Operand) (ho : o.op = .slice 40 x none (some hi) none) (A : Option Addr) (n cap k : Nat) (hx : a.eval x = .slice A n cap) (hl : a.eval hi = .int .i64 (k : Int)) (hk : k ≤ cap)
    (hK : K (a.put o.dst (.slice A k cap))) : o.quiet Try.prog a (Below b w0) K := by
  refine quiet_of_exec (fun w => ?_) hK
  have e : A.map (fun z => z.add 0) = A := by cases A <;> simp [Addr.add]
  unfold execOp
  simp only [ho, hx, hl, Option.map_some, Option.map_none, Sem.run_bind, Sem.run_pure]
  rw [run_sliceAt_slice w 40 _ _ _ _ und40, run_slice_h w 40 A n cap und40 .i64 (k : Int) (by omega) (by omega), elem40, size38]
  simp only [Result.andThen_ok, sliced, Int.toNat_natCast, Nat.zero_mul, Nat.sub_zero, e, ite_self]
/-- each third pair is turned round. -/
def swp (l : List (Int × Int)) : Nat → List (Int × Int)
  | 0 => l
  | i + 1 => if i % 3 = 1 then (swp l i).set i (((swp l i).getD i (0, 0)).2, ((swp l i).getD i (0, 0)).1) else swp l i
theorem swp_length (l : List (Int × Int)) : ∀ i, (swp l i).length = l.length
  | 0 => rfl
  | i + 1 => by
    unfold swp
    split
    · rw [List.length_set, swp_length l i]
    · exact swp_length l i
theorem dots_cons (p : Int × Int) (l : List (Int × Int)) : dots (p :: l) = p.1 * p.2 + dots l := by simp [dots]
theorem dots_set : ∀ (l : List (Int × Int)) (i : Nat), dots (l.set i ((l.getD i (0, 0)).2, (l.getD i (0, 0)).1)) = dots l
  | [], _ => rfl
  | p :: l, 0 => by simp [dots_cons, Int.mul_comm]
  | p :: l, i + 1 => by
    have := dots_set l i
    rw [List.set_cons_succ, dots_cons, dots_cons, List.getD_cons_succ, this]
theorem swp_dots (l : List (Int × Int)) : ∀ i, dots (swp l i) = dots l
  | 0 => rfl
  | i + 1 => by
    unfold swp
    split
    · rw [dots_set, swp_dots l i]
    · exact swp_dots l i
theorem fit64_swp {l : List (Int × Int)} (h : Fit64 l) : ∀ i, Fit64 (swp l i)
  | 0 => h
  | i + 1 => by
    unfold swp
    split
    · intro p hp
      rcases List.mem_or_eq_of_mem_set hp with h1 | h1
      · exact fit64_swp h i p h1
      · have hg : ((swp l i).getD i (0, 0)) ∈ swp l i ∨ ((swp l i).getD i (0, 0)) = (0, 0) := by
          rw [List.getD_eq_getElem?_getD]
          by_cases hi : i < (swp l i).length
          · left; rw [List.getElem?_eq_getElem hi]; exact List.getElem_mem _
          · right; rw [List.getElem?_eq_none (by omega)]; rfl
        rw [h1]
        rcases hg with hg | hg
        · have := fit64_swp h i _ hg
          exact ⟨this.2, this.1⟩
        · rw [hg]; decide
    · exact fit64_swp h i
theorem fit_way {x : X} {d e : Int} (h : fit x = (d, e)) : (e = 0 ∧ In64 d ∧ ofI d = x) ∨ e = 50 := by
  unfold fit at h
  split at h
  · rename_i hi
    injection h with h1 h2
    subst h1
    exact .inl ⟨h2.symm, hi, BitVec.ofInt_toInt⟩
  · injection h with h1 h2
    exact .inr h2.symm
end Go.Proofs.Ytiiccjnfggojmaa

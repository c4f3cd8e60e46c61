/-
  WORDS on pairs: a row of pairs that the call made, append onto it, a store into it, what is kept; a part of a row. No condition but lengths.
-/
import Derived.Test.YtiiccjnfggojmaaW14
import Derived.Maps.AppendAt
import Derived.Laws.AppendOwnNone
import Derived.Deep.AppendLies
namespace Go.Proofs.Ytiiccjnfggojmaa
open Go.RowKit Wd

/-- pairs as cells. -/
def PV (l : List (Int × Int)) : List Value := l.flatMap fun p => [.int .i64 p.1, .int .i64 p.2]
theorem PV_cons (p : Int × Int) (l : List (Int × Int)) : PV (p :: l) = .int .i64 p.1 :: .int .i64 p.2 :: PV l := rfl
theorem PV_length : ∀ l : List (Int × Int), (PV l).length = l.length * 2
  | [] => rfl
  | p :: l => by rw [PV_cons, List.length_cons, List.length_cons, PV_length l, List.length_cons]; omega
theorem PV_append (l m : List (Int × Int)) : PV (l ++ m) = PV l ++ PV m := by simp [PV]
theorem PV_one (l : List (Int × Int)) : ∀ u ∈ PV l, u.oneCell' = true := by
  intro u hu
  simp only [PV, List.mem_flatMap] at hu
  obtain ⟨p, _, hp⟩ := hu
  simp only [List.mem_cons, List.not_mem_nil, or_false] at hp
  rcases hp with rfl | rfl
  · rfl
  · rfl
theorem PV_at : ∀ (l : List (Int × Int)) (k : Nat) (h : k < l.length), (PV l)[k * 2]? = some (.int .i64 (l[k]).1) ∧ (PV l)[k * 2 + 1]? = some (.int .i64 (l[k]).2)
  | p :: l, 0, _ => ⟨rfl, rfl⟩
  | p :: l, k + 1, h => by
    have := PV_at l k (by simpa using h)
    rw [PV_cons, show (k + 1) * 2 = k * 2 + 1 + 1 by omega]
    simpa using this
theorem PV_of (l : List (Int × Int)) (j : Nat) (u : Value) (h : (PV l)[j]? = some u) : ∃ k, ∃ hk : k < l.length, (j = k * 2 ∧ u = .int .i64 (l[k]).1) ∨ (j = k * 2 + 1 ∧ u = .int .i64 (l[k]).2) := by
  have hj : j < l.length * 2 := by
    have := (List.getElem?_eq_some_iff.1 h).1
    rwa [PV_length] at this
  have hk : j / 2 < l.length := by omega
  obtain ⟨e0, e1⟩ := PV_at l (j / 2) hk
  refine ⟨j / 2, hk, ?_⟩
  by_cases h2 : j % 2 = 0
  · left
    have e : j = j / 2 * 2 := by omega
    rw [← e, h] at e0
    exact ⟨e, Option.some.inj e0⟩
  · right
    have e : j = j / 2 * 2 + 1 := by omega
    rw [← e, h] at e1
    exact ⟨e, Option.some.inj e1⟩
theorem PV_set : ∀ (l : List (Int × Int)) (k : Nat) (p : Int × Int), k < l.length → ((PV l).set (k * 2) (.int .i64 p.1)).set (k * 2 + 1) (.int .i64 p.2) = PV (l.set k p)
  | q :: l, 0, p, _ => rfl
  | q :: l, k + 1, p, h => by
    rw [List.set_cons_succ, PV_cons, PV_cons, show (k + 1) * 2 = k * 2 + 1 + 1 by omega]
    simp only [List.set_cons_succ]
    rw [PV_set l k p (by simpa using h)]
theorem addz (g n : Nat) : (⟨g, 0, none⟩ : Addr).add n = ⟨g, n, none⟩ := by unfold Addr.add; split <;> simp_all
theorem adda (a : Addr) (i j : Nat) : (a.add i).add j = a.add (i + j) := by
  unfold Addr.add
  by_cases hi : i = 0 <;> by_cases hj : j = 0 <;> simp [hi, hj, Nat.add_assoc]
/-- a row of pairs that the call itself made. -/
def POwn (w : World) (base : Nat) (A : Option Addr) (cap : Nat) (l : List (Int × Int)) : Prop := w.ownsRow base 38 2 (.slice A l.length cap) l.length (PV l)
section
variable {w w' : World} {base cap : Nat} {A : Option Addr} {l : List (Int × Int)}
theorem POwn.row (h : POwn w base A cap l) : ∀ k, (Value.slice A l.length cap).ownBlock = some k → base ≤ k ∧ k < w.heap.size := h.lt
theorem POwn.size (h : POwn w base A cap l) : l.length ≤ cap := by
  rcases h.2 with ⟨h1, h2⟩ | ⟨g, cap', cur, h1, _, _, h2, _⟩
  · omega
  · injection h1 with _ _ h3
    omega
theorem POwn.at_ (h : POwn w base A cap l) (hl : 0 < l.length) : ∃ g, A = some ⟨g, 0, none⟩ ∧ base ≤ g ∧ g < w.heap.size := by
  obtain ⟨g, cap', hv, hb, hlt⟩ := h.form hl
  have hA : A = some ⟨g, 0, none⟩ := by injection hv
  exact ⟨g, hA, hb, hlt⟩
theorem POwn.cell {g : Nat} (h : POwn w base (some ⟨g, 0, none⟩) cap l) {k : Nat} (hk : k < l.length) : w.cell? ⟨g, k * 2, none⟩ = some (.int .i64 (l[k]).1) ∧ w.cell? ⟨g, k * 2 + 1, none⟩ = some (.int .i64 (l[k]).2) := by
  obtain ⟨e0, e1⟩ := PV_at l k hk
  rw [h.cellAt (k * 2) (by omega), h.cellAt (k * 2 + 1) (by omega)]
  exact ⟨e0, e1⟩
theorem POwn.prs (h : POwn w base A cap l) : Prs w A l := fun k hk => by
  obtain ⟨g, rfl, _, hlt⟩ := h.at_ (by omega)
  refine ⟨_, rfl, hlt, ?_⟩
  rw [addz, addz]
  exact h.cell hk
theorem POwn.keep {row : Option Nat} (h : POwn w base A cap l) (hg : w.grownBy w' row) (hne : (Value.slice A l.length cap).ownBlock = none ∨ (Value.slice A l.length cap).ownBlock ≠ row) : POwn w' base A cap l := h.kept hg hne
theorem POwn.below (h : POwn w base A cap l) (hb : Below w.heap.size w w') : POwn w' base A cap l :=
  h.keep (row := none) ⟨hb.os, hb.tape, hb.output, hb.size, fun i hi _ => hb.block i hi⟩ (by
    cases hv : (Value.slice A l.length cap).ownBlock with
    | none => exact .inl rfl
    | some k => exact .inr (by simp))
theorem POwn.new_ (w : World) (hb : base ≤ w.heap.size) : POwn (w.alloc (.cells #[] 38)) base (some ⟨w.heap.size, 0, none⟩) 0 [] := World.ownsRow_lit w #[] 0 hb (by decide) rfl
theorem POwn.drew (h : POwn w base A cap l) : POwn w.drew base A cap l := h
theorem POwn.free {g : Nat} (h : POwn w base (some ⟨g, 0, none⟩) cap l) (j : Nat) : w.frozen? ⟨g, j, none⟩ = false := h.frozenAt j
/-- a part of a row. -/
theorem Prs.take (h : Prs w A l) (n : Nat) : Prs w A (l.take n) := fun k hk => by
  have hk' : k < l.length := by rw [List.length_take] at hk; omega
  have := h k hk'
  rw [List.getElem_take]
  exact this
theorem Prs.drop (h : Prs w A l) (hc : l.length ≤ cap) (n : Nat) : Prs w (if cap = n then A else A.map (·.add (n * 2))) (l.drop n) := fun k hk => by
  have hk' : n + k < l.length := by rw [List.length_drop] at hk; omega
  obtain ⟨a, rfl, h1, h2, h3⟩ := h (n + k) hk'
  rw [if_neg (by omega), List.getElem_drop]
  refine ⟨a.add (n * 2), rfl, by rw [addb]; exact h1, ?_, ?_⟩
  · rw [adda, show n * 2 + k * 2 = (n + k) * 2 by omega]; exact h2
  · rw [adda, show n * 2 + (k * 2 + 1) = (n + k) * 2 + 1 by omega]; exact h3
end
theorem fit64_take {l : List (Int × Int)} (h : Fit64 l) (n : Nat) : Fit64 (l.take n) := fun p hp => h p (List.mem_of_mem_take hp)
theorem fit64_drop {l : List (Int × Int)} (h : Fit64 l) (n : Nat) : Fit64 (l.drop n) := fun p hp => h p (List.mem_of_mem_drop hp)
theorem fit64_append {l m : List (Int × Int)} (h : Fit64 l) (h2 : Fit64 m) : Fit64 (l ++ m) := fun p hp => by
  rcases List.mem_append.1 hp with hp | hp
  · exact h p hp
  · exact h2 p hp
theorem dots_append (l m : List (Int × Int)) : dots (l ++ m) = dots l + dots m := by simp [dots, List.sum_append]
theorem dots_turn (l : List (Int × Int)) (k : Nat) : dots (l.drop k ++ l.take k) = dots l := by
  rw [dots_append, Int.add_comm, ← dots_append, List.take_append_drop]
theorem info38 : (Try.prog.info? 38).map (fun i => (i.zero, i.size, i.bytes)) = some (some (.agg #[.int .i64 0, .int .i64 0]), 2, 16) := by kernel_rfl
/-- append onto a row of the call's own, from whatever pairs (nil, empty, cut). -/
theorem run_append_p (w : World) (ty base cap c : Nat) (A A2 : Option Addr) (l news : List (Int × Int)) (hown : POwn w base A cap l) (hr : Prs w A2 news) (hlen : l.length + news.length ≤ 1000000) (hbase : base ≤ w.heap.size) :
    ∃ A' cap' w', (Builtin.append_ #[40, 40] ty #[.slice A l.length cap, .slice A2 news.length c]).run Try.prog w = .ok (.slice A' (l ++ news).length cap') w' ∧ POwn w' base A' cap' (l ++ news) ∧
      w.grownBy w' (Value.slice A l.length cap).ownBlock ∧ ((Value.slice A' (l ++ news).length cap').ownBlock = (Value.slice A l.length cap).ownBlock ∨ (Value.slice A' (l ++ news).length cap').ownBlock = some w.heap.size) := by
  obtain ⟨i, hi, hz, hs, hby⟩ := info_parts info38
  by_cases hn : news = []
  · subst hn
    refine ⟨A, cap, w, ?_, by rw [List.append_nil]; exact hown, World.grownBy.refl w _, by rw [List.append_nil]; exact .inl rfl⟩
    rw [List.append_nil]
    rcases hown.2 with ⟨h1, h2⟩ | ⟨g, cap', cur, h1, _, _, hnc, _⟩
    · injection h1 with hA _ hcap
      rw [h2, hA, hcap]
      cases A2 <;> simp [Builtin.append_, run_underlying Try.underlying40, sizeOf, typeInfo, hi, Builtin.lenOf, Builtin.firstCells, loadCells, loadCellsFrom]
    · injection h1 with hA _ hcap
      have hnc' : l.length ≤ cap := by omega
      rw [hA]
      cases A2 <;> simp [Builtin.append_, run_underlying Try.underlying40, sizeOf, typeInfo, hi, Builtin.lenOf, Builtin.firstCells, hnc', storeCells, loadCells, loadCellsFrom]
  · have hpos : 0 < news.length := List.length_pos_iff.2 hn
    obtain ⟨ad, rfl, _⟩ := hr 0 hpos
    obtain ⟨v', w', hrun, h2, h3, _, h5⟩ := run_append_own_at (P := Try.prog) w base 40 ty 38 i _ 2 16 Try.underlying40 hi hz hs hby rfl (by decide) (.slice A l.length cap) l.length (PV l) hown ad news.length c (PV news) (PV_length news)
      (fun j u hu => by
        obtain ⟨k, hk, ⟨rfl, rfl⟩ | ⟨rfl, rfl⟩⟩ := PV_of news j u hu
        · obtain ⟨a, e, _, h0, _⟩ := hr k hk
          injection e with e
          subst e
          exact h0
        · obtain ⟨a, e, _, _, h1⟩ := hr k hk
          injection e with e
          subst e
          exact h1) (PV_one news) (by simp only [maxLen]; omega) (by omega) hbase
    obtain ⟨g, cap', rfl, hg, hlt⟩ := h2.form (by omega)
    refine ⟨some ⟨g, 0, none⟩, cap', w', by rw [List.length_append]; exact hrun, ?_, h3, by rw [List.length_append]; exact h5⟩
    unfold POwn
    rw [PV_append, List.length_append]
    exact h2
theorem POwn.grown {w w' : World} {base cap : Nat} {A : Option Addr} {l : List (Int × Int)} (hown : POwn w base A cap l) (hg : w.grownBy w' (Value.slice A l.length cap).ownBlock) (hbase : base ≤ w.heap.size) : Below base w w' :=
  (Below.refl _ _).grown hg hbase fun k hk => (hown.row k hk).1
theorem wp_append_p {w : World} {o : Oper} {a : Act} {K : Act → World → Prop} {Q : Exit → Act → World → Prop} (s x : Operand)
    (ho : o.op = .call { callee := .builtin .append, args := #[s, x], argTypes := #[40, 40] })
    (base : Nat) (A : Option Addr) (cap : Nat) (l : List (Int × Int)) (n : Nat) (hn : l.length = n) (hs : a.eval s = .slice A n cap) (hown : POwn w base A cap l)
    (A2 : Option Addr) (m c : Nat) (news : List (Int × Int)) (hx : a.eval x = .slice A2 m c) (hm : news.length = m) (hr : Prs w A2 news) (hlen : l.length + news.length ≤ 1000000) (hbase : base ≤ w.heap.size)
    (h : ∀ A' cap' l' w', Hid (l' = l ++ news) → POwn w' base A' cap' l' → Below base w w' → K (a.put o.dst (.slice A' l'.length cap')) w') : o.wp Try.prog a w K Q := by
  subst hm
  subst hn
  obtain ⟨A', cap', w', hrun, h2, h3, h4⟩ := run_append_p w o.type base cap c A A2 l news hown hr hlen hbase
  unfold Oper.wp execOp
  simp only [ho, resolve, invoke, builtin, Sem.run_bind, Sem.run_pure, Result.andThen_ok, List.map_toArray, List.map_cons, List.map_nil, hs, hx, hrun]
  exact h A' cap' (l ++ news) w' rfl h2 (hown.grown h3 hbase)
theorem wpList_append_p {w : World} {ops : Array Oper} {rest : List Oper} {o : Oper} {a : Act} {Q : Exit → Act → World → Prop} (hgd : o.guard = none) (s x : Operand)
    (ho : o.op = .call { callee := .builtin .append, args := #[s, x], argTypes := #[40, 40] })
    (base : Nat) (A : Option Addr) (cap : Nat) (l : List (Int × Int)) (n : Nat) (hn : l.length = n) (hs : a.eval s = .slice A n cap) (hown : POwn w base A cap l)
    (A2 : Option Addr) (m c : Nat) (news : List (Int × Int)) (hx : a.eval x = .slice A2 m c) (hm : news.length = m) (hr : Prs w A2 news) (hlen : l.length + news.length ≤ 1000000) (hbase : base ≤ w.heap.size)
    (h : ∀ A' cap' l' w', Hid (l' = l ++ news) → POwn w' base A' cap' l' → Below base w w' → wpList Try.prog ops Q rest (a.put o.dst (.slice A' l'.length cap')) w') :
    wpList Try.prog ops Q (o :: rest) a w :=
  wpList_plain hgd fun _ hK => wp_append_p s x ho base A cap l n hn hs hown A2 m c news hx hm hr hlen hbase fun A' cap' l' w' h1 h2 h3 => hK _ _ (h A' cap' l' w' h1 h2 h3)
end Go.Proofs.Ytiiccjnfggojmaa

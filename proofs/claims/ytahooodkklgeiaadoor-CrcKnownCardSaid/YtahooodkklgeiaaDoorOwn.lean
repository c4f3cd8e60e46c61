/-
  WORDS on bytes of the call's own: 'Own' (a row of bytes that the call made), append onto it, what is kept. No condition but lengths.
-/
import Derived.Test.YtahooodkklgeiaaDoorWords
import Derived.Maps.AppendAt
import Derived.Laws.AppendOwnNone
import Derived.Deep.AppendLies
import Derived.Laws.BytesArg
namespace Go.Proofs.YtahooodkklgeiaaDoor
open Go.RowKit Crc

def BV (l : List Nat) : List Value := l.map fun c : Nat => .int .u8 (c : Int)
theorem BV_length (l : List Nat) : (BV l).length = l.length := by simp [BV]
theorem BV_append (l m : List Nat) : BV (l ++ m) = BV l ++ BV m := by simp [BV]
theorem BV_one (l : List Nat) : ∀ u ∈ BV l, u.oneCell' = true := by
  intro u hu
  simp only [BV, List.mem_map] at hu
  obtain ⟨c, _, rfl⟩ := hu
  rfl
theorem BV_at (l : List Nat) (j : Nat) (u : Value) (h : (BV l)[j]? = some u) : j < l.length ∧ u = .int .u8 ((l.getD j 0 : Nat) : Int) := by
  have hj : j < l.length := by
    have := (List.getElem?_eq_some_iff.1 h).1
    rwa [BV_length] at this
  refine ⟨hj, ?_⟩
  rw [BV, List.getElem?_map, List.getElem?_eq_getElem hj] at h
  rw [List.getD_eq_getElem?_getD, List.getElem?_eq_getElem hj]
  simpa using h.symm

/-- a row of bytes that the call itself made. -/
def Own (w : World) (base : Nat) (A : Option Addr) (cap : Nat) (l : List Nat) : Prop :=
  (∀ c ∈ l, c < 256) ∧ w.ownsRow base 5 1 (.slice A l.length cap) l.length (BV l)

section
variable {w w' : World} {base b cap : Nat} {A : Option Addr} {l : List Nat}
theorem Own.nil (w : World) (base : Nat) : Own w base none 0 [] := ⟨by simp, World.ownsRow_nil w base 5 1⟩
theorem Own.size (h : Own w base A cap l) : l.length ≤ cap := by
  rcases h.2.2 with ⟨h1, h2⟩ | ⟨g, cap', cur, h1, _, _, h2, _⟩
  · omega
  · injection h1 with _ _ h3
    omega
theorem Own.at_ (h : Own w base A cap l) (hl : 0 < l.length) : ∃ g, A = some ⟨g, 0, none⟩ ∧ base ≤ g ∧ g < w.heap.size ∧ ∀ j, j < l.length → w.cell? ⟨g, j, none⟩ = some (.int .u8 ((l.getD j 0 : Nat) : Int)) := by
  obtain ⟨g, cap', hv, hb, hlt⟩ := h.2.form hl
  have hA : A = some ⟨g, 0, none⟩ := by injection hv
  have hcap : cap = cap' := by injection hv
  subst hA
  refine ⟨g, rfl, hb, hlt, fun j hj => ?_⟩
  have hc := h.2.cellAt j (by omega)
  rw [hc, BV, List.getElem?_map, List.getElem?_eq_getElem hj, List.getD_eq_getElem?_getD, List.getElem?_eq_getElem hj]
  rfl
theorem Own.rd (h : Own w base A cap l) : Rd w w.heap.size A l := by
  refine ⟨h.1, fun hl => ?_⟩
  obtain ⟨g, hA, _, hlt, hc⟩ := h.at_ hl
  refine ⟨_, hA, hlt, fun j hj => ?_⟩
  have hadd : (⟨g, 0, none⟩ : Addr).add j = ⟨g, j, none⟩ := by unfold Addr.add; split <;> simp_all
  rw [hadd]
  exact hc j hj
theorem Own.row (h : Own w base A cap l) : ∀ k, (Value.slice A l.length cap).ownBlock = some k → base ≤ k ∧ k < w.heap.size := h.2.lt
theorem Own.keep (h : Own w base A cap l) {row : Option Nat} (hg : w.grownBy w' row) (hne : (Value.slice A l.length cap).ownBlock = none ∨ (Value.slice A l.length cap).ownBlock ≠ row) : Own w' base A cap l :=
  ⟨h.1, h.2.kept hg hne⟩
theorem Own.below (h : Own w base A cap l) (hb : Below w.heap.size w w') : Own w' base A cap l :=
  h.keep (row := none) ⟨hb.os, hb.tape, hb.output, hb.size, fun i hi _ => hb.block i hi⟩ (by
    cases hv : (Value.slice A l.length cap).ownBlock with
    | none => exact .inl rfl
    | some k => exact .inr (by simp))
theorem Own.alloc (h : Own w base A cap l) (o : Obj) : Own (w.alloc o) base A cap l := ⟨h.1, h.2.alloc o⟩

theorem Own.drew (h : Own w base A cap l) : Own w.drew base A cap l := h
theorem block_add (a : Addr) (n : Nat) : (a.add n).block = a.block := by unfold Addr.add; split <;> rfl
theorem Rd.keep (h : Rd w b A l) (hk : ∀ p : Addr, p.block < b → w'.cell? p = w.cell? p) : Rd w' b A l :=
  ⟨h.1, fun hl => by
    obtain ⟨ad, hA, hb, hc⟩ := h.2 hl
    exact ⟨ad, hA, hb, fun j hj => (hk _ (by rw [block_add]; exact hb)).trans (hc j hj)⟩⟩
theorem Rd.below {B : Nat} (h : Rd w b A l) (hb : Below B w w') (hB : b ≤ B) : Rd w' b A l := h.keep fun _ hp => hb.cell (Nat.lt_of_lt_of_le hp hB)
theorem Rd.mono {b' : Nat} (h : Rd w b A l) (hb : b ≤ b') : Rd w b' A l :=
  ⟨h.1, fun hl => by
    obtain ⟨ad, hA, h1, hc⟩ := h.2 hl
    exact ⟨ad, hA, by omega, hc⟩⟩
theorem Rd.take (h : Rd w b A l) (k : Nat) : Rd w b A (l.take k) :=
  ⟨fun c hc => h.1 c (List.mem_of_mem_take hc), fun hl => by
    have hlt : 0 < l.length := by rw [List.length_take] at hl; omega
    obtain ⟨ad, hA, h1, hc⟩ := h.2 hlt
    refine ⟨ad, hA, h1, fun j hj => ?_⟩
    rw [List.length_take] at hj
    rw [hc j (by omega), List.getD_eq_getElem?_getD, List.getD_eq_getElem?_getD, List.getElem?_take_of_lt (by omega)]⟩
theorem Rd.drew (h : Rd w b A l) : Rd w.drew b A l := h
theorem Rd.empty (w : World) (b : Nat) (A : Option Addr) : Rd w b A [] := ⟨by simp, fun h => absurd h (by simp)⟩
theorem Rd.new (w : World) (t : TypeId) (c : Nat) (x : Int) (hx : x = (c : Int)) (hc : c < 256) : Rd (w.alloc (.cells #[.int .u8 x] t)) (w.heap.size + 1) (some ⟨w.heap.size, 0, none⟩) [c] :=
  ⟨by simpa using hc, fun _ => ⟨_, rfl, by simp, fun j hj => by
    obtain rfl : j = 0 := by simpa using hj
    rw [cell_one_new w (.int .u8 x) t 0 (.int .u8 x) rfl, hx]
    rfl⟩⟩
theorem HasTab.below {B : Nat} (h : HasTab w) (hb : Below B w w') (hB : 0 < B) : HasTab w' := fun j hj => (hb.cell (p := ⟨0, j, none⟩) hB).trans (h j hj)
theorem HasTab.pos (h : HasTab w) : 0 < w.heap.size := by
  have := block_lt_of_cell (h 0 (by omega))
  exact this
end

/-- bytes as a string. -/
def strB (l : List Nat) : ByteArray := strOfNums (l.map fun c : Nat => (c : Int))
theorem run_conv_b (w : World) (b cap : Nat) (A : Option Addr) (l : List Nat) (h : Rd w b A l) : (convert 23 9 (.slice A l.length cap)).run Tryd.prog w = .ok (.string (strB l)) w := by
  rw [run_convert_bytes_string w 23 9 5 _ _ _ Tryd.underlying23 Tryd.underlying5 Tryd.underlying9]
  rcases A with _ | ad
  · have h0 : l = [] := by
      apply List.length_eq_zero_iff.1
      rcases Nat.eq_zero_or_pos l.length with h0 | h0
      · exact h0
      · obtain ⟨_, h1, _⟩ := h.2 h0
        cases h1
    subst h0
    simp [Conv.bytesToString, strB, strOfNums]
    rfl
  · have hl : (loadCells ad l.length).run Tryd.prog w = .ok ((l.map fun c : Nat => (c : Int)).map (Value.int .u8)).toArray w := by
      have := run_loadCells_list (P := Tryd.prog) w ad (BV l) (fun j v hj => by
        obtain ⟨hjl, rfl⟩ := BV_at l j v hj
        obtain ⟨ad', h1, _, hc⟩ := h.2 (by omega)
        injection h1 with h1
        subst h1
        exact hc j hjl)
      rw [BV_length] at this
      rw [this, List.map_map]
      rfl
    rw [run_bytesToString w _ _ cap _ hl, foldl_push_bytes]
    simp [strB, strOfNums, ByteArray.empty, ByteArray.emptyWithCapacity]
    rfl

theorem info5 : (Tryd.prog.info? 5).map (fun i => (i.zero, i.size, i.bytes)) = some (some (.int .u8 0), 1, 1) := by kernel_rfl
/-- append onto a row of the call's own, from whatever bytes (nil, empty, cut). -/
theorem run_append_b (w : World) (ty base cap b c : Nat) (A A2 : Option Addr) (l news : List Nat) (hown : Own w base A cap l) (hr : Rd w b A2 news) (hlen : l.length + news.length ≤ 1000000) (hbase : base ≤ w.heap.size) :
    ∃ A' cap' w', (Builtin.append_ #[23, 23] ty #[.slice A l.length cap, .slice A2 news.length c]).run Tryd.prog w = .ok (.slice A' (l ++ news).length cap') w' ∧ Own w' base A' cap' (l ++ news) ∧
      w.grownBy w' (Value.slice A l.length cap).ownBlock ∧ ((Value.slice A' (l ++ news).length cap').ownBlock = (Value.slice A l.length cap).ownBlock ∨ (Value.slice A' (l ++ news).length cap').ownBlock = some w.heap.size) := by
  obtain ⟨i, hi, hz, hs, hby⟩ := info_parts info5
  by_cases hn : news = []
  · subst hn
    refine ⟨A, cap, w, ?_, by rw [List.append_nil]; exact hown, World.grownBy.refl w _, by rw [List.append_nil]; exact .inl rfl⟩
    rw [List.append_nil]
    rcases hown.2.2 with ⟨h1, h2⟩ | ⟨g, cap', cur, h1, _, _, hnc, _⟩
    · injection h1 with hA _ hcap
      rw [h2, hA, hcap]
      cases A2 <;> simp [Builtin.append_, run_underlying Tryd.underlying23, sizeOf, typeInfo, hi, Builtin.lenOf, Builtin.firstCells, loadCells, loadCellsFrom]
    · injection h1 with hA _ hcap
      have hnc' : l.length ≤ cap := by omega
      rw [hA]
      cases A2 <;> simp [Builtin.append_, run_underlying Tryd.underlying23, sizeOf, typeInfo, hi, Builtin.lenOf, Builtin.firstCells, hnc', storeCells, loadCells, loadCellsFrom]
  · have hpos : 0 < news.length := List.length_pos_iff.2 hn
    obtain ⟨ad, rfl, _, hc⟩ := hr.2 hpos
    obtain ⟨v', w', hrun, h2, h3, _, h5⟩ := run_append_own_at (P := Tryd.prog) w base 23 ty 5 i _ 1 1 Tryd.underlying23 hi hz hs hby rfl (by decide) (.slice A l.length cap) l.length (BV l) hown.2 ad news.length c (BV news) (by rw [BV_length]; omega)
      (fun j u hu => by obtain ⟨hj, rfl⟩ := BV_at news j u hu; exact hc j hj) (BV_one news) (by simp only [maxLen]; omega) (by omega) hbase
    obtain ⟨g, cap', rfl, hg, hlt⟩ := h2.form (by omega)
    refine ⟨some ⟨g, 0, none⟩, cap', w', by rw [List.length_append]; exact hrun, ⟨fun c hc' => ?_, ?_⟩, h3, by rw [List.length_append]; exact h5⟩
    · rcases List.mem_append.1 hc' with h | h
      · exact hown.1 c h
      · exact hr.1 c h
    · rw [BV_append, List.length_append]
      exact h2

theorem Own.grown {w w' : World} {base cap : Nat} {A : Option Addr} {l : List Nat} (hown : Own w base A cap l) (hg : w.grownBy w' (Value.slice A l.length cap).ownBlock) (hbase : base ≤ w.heap.size) : Below base w w' :=
  (Below.refl _ _).grown hg hbase fun k hk => (hown.row k hk).1

theorem wp_append_b {w : World} {o : Oper} {a : Act} {K : Act → World → Prop} {Q : Exit → Act → World → Prop} (s x : Operand)
    (ho : o.op = .call { callee := .builtin .append, args := #[s, x], argTypes := #[23, 23] })
    (base : Nat) (A : Option Addr) (cap : Nat) (l : List Nat) (hs : a.eval s = .slice A l.length cap) (hown : Own w base A cap l)
    (b : Nat) (A2 : Option Addr) (m c : Nat) (news : List Nat) (hx : a.eval x = .slice A2 m c) (hm : news.length = m) (hr : Rd w b A2 news) (hlen : l.length + news.length ≤ 1000000) (hbase : base ≤ w.heap.size)
    (h : ∀ A' cap' l' w', Hid (l' = l ++ news) → Own w' base A' cap' l' → Below base w w' → Hid (w.grownBy w' (Value.slice A l.length cap).ownBlock ∧ ((Value.slice A' l'.length cap').ownBlock = (Value.slice A l.length cap).ownBlock ∨ (Value.slice A' l'.length cap').ownBlock = some w.heap.size)) → K (a.put o.dst (.slice A' l'.length cap')) w') : o.wp Tryd.prog a w K Q := by
  subst hm
  obtain ⟨A', cap', w', hrun, h2, h3, h4⟩ := run_append_b w o.type base cap b c A A2 l news hown hr hlen hbase
  unfold Oper.wp execOp
  simp only [ho, resolve, invoke, builtin, Sem.run_bind, Sem.run_pure, Result.andThen_ok, List.map_toArray, List.map_cons, List.map_nil, hs, hx, hrun]
  exact h A' cap' (l ++ news) w' rfl h2 (hown.grown h3 hbase) ⟨h3, h4⟩
theorem wpList_append_b {w : World} {ops : Array Oper} {rest : List Oper} {o : Oper} {a : Act} {Q : Exit → Act → World → Prop} (hgd : o.guard = none) (s x : Operand)
    (ho : o.op = .call { callee := .builtin .append, args := #[s, x], argTypes := #[23, 23] })
    (base : Nat) (A : Option Addr) (cap : Nat) (l : List Nat) (hs : a.eval s = .slice A l.length cap) (hown : Own w base A cap l)
    (b : Nat) (A2 : Option Addr) (m c : Nat) (news : List Nat) (hx : a.eval x = .slice A2 m c) (hm : news.length = m) (hr : Rd w b A2 news) (hlen : l.length + news.length ≤ 1000000) (hbase : base ≤ w.heap.size)
    (h : ∀ A' cap' l' w', Hid (l' = l ++ news) → Own w' base A' cap' l' → Below base w w' → Hid (w.grownBy w' (Value.slice A l.length cap).ownBlock ∧ ((Value.slice A' l'.length cap').ownBlock = (Value.slice A l.length cap).ownBlock ∨ (Value.slice A' l'.length cap').ownBlock = some w.heap.size)) → wpList Tryd.prog ops Q rest (a.put o.dst (.slice A' l'.length cap')) w') :
    wpList Tryd.prog ops Q (o :: rest) a w :=
  wpList_plain hgd fun _ hK => wp_append_b s x ho base A cap l hs hown b A2 m c news hx hm hr hlen hbase fun A' cap' l' w' h1 h2 h3 h4 => hK _ _ (h A' cap' l' w' h1 h2 h3 h4)
theorem step_append_b {w : World} {ops : Array Oper} {o : Oper} {a : Act} {K : Act → World → Prop} {Q : Exit → Act → World → Prop} {E : Prop} (hgd : o.guard = none) (s x : Operand)
    (ho : o.op = .call { callee := .builtin .append, args := #[s, x], argTypes := #[23, 23] })
    (base : Nat) (A : Option Addr) (cap : Nat) (l : List Nat) (hs : a.eval s = .slice A l.length cap) (hown : Own w base A cap l)
    (b : Nat) (A2 : Option Addr) (m c : Nat) (news : List Nat) (hx : a.eval x = .slice A2 m c) (hm : news.length = m) (hr : Rd w b A2 news) (hlen : l.length + news.length ≤ 1000000) (hbase : base ≤ w.heap.size)
    (h : ∀ A' cap' l' w', Hid (l' = l ++ news) → Own w' base A' cap' l' → Below base w w' → Hid (w.grownBy w' (Value.slice A l.length cap).ownBlock ∧ ((Value.slice A' l'.length cap').ownBlock = (Value.slice A l.length cap).ownBlock ∨ (Value.slice A' l'.length cap').ownBlock = some w.heap.size)) → K (a.put o.dst (.slice A' l'.length cap')) w') :
    if Region.wanted o (yielded ops a.tmps) = true then Oper.wp Tryd.prog o a w K Q else E := by
  have hw : Region.wanted o (yielded ops a.tmps) = true := by simp [Region.wanted, hgd]
  rw [if_pos hw]
  exact wp_append_b s x ho base A cap l hs hown b A2 m c news hx hm hr hlen hbase h

end Go.Proofs.YtahooodkklgeiaaDoor

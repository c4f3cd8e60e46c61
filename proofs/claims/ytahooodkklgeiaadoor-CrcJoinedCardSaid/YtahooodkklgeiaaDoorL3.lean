/-
  WALKS of the laws CrcGoesOn and CrcJoined.
-/
import Derived.Test.YtahooodkklgeiaaDoorL1
namespace Go.Proofs.YtahooodkklgeiaaDoor
open Go.RowKit Crc

set_option maxHeartbeats 400000 in
theorem goesOn_walk (s : Reg) (capa : Nat) (A : Option Addr) (la : List Nat) (capb : Nat) (Bd : Option Addr) (lb : List Nat) (w : World) (ha : la.length ≤ capa) (hma : la.length ≤ 9223372036854775807) (hra : Rd w w.heap.size A la)
    (hb : lb.length ≤ capb) (hmb : lb.length ≤ 9223372036854775807) (hrb : Rd w w.heap.size Bd lb) (hT : HasTab w) :
    Calls Tryd.prog 5 #[.int .u32 (N s), .slice A la.length capa, .slice Bd lb.length capb] w fun e w' => e = .returned (.bool true) ∧ Below w.heap.size w w' := by
  have h0 := hT.pos
  go_enter Tryd.func5, Tryd.ntmps5
  go_wp2_with fail
  refine (cut_any w.heap.size capa A la _ ha hma hra).mono ?_
  rintro e w1 ⟨A1, cap1, l1, hl1, rfl, hown1, hb1⟩
  have hk1 := take_le la l1 300 hl1
  have hrb1 := hrb.below hb1 (Nat.le_refl _)
  have hT1 := hT.below hb1 h0
  go_wp2_with fail
  refine (cut_any w.heap.size capb Bd lb _ hb hmb hrb1).mono ?_
  rintro e w2 ⟨A2, cap2, l2, hl2, rfl, hown2, hb2⟩
  have hk2 := take_le lb l2 300 hl2
  have hT2 := hT1.below hb2 hT1.pos
  have hr1 := (hown1.rd).below hb2 (Nat.le_refl _)
  have hr2 := hown2.rd
  go_wp2_with fail
  refine (update_any s _ _ _ l1 _ (by omega) hr1 hT2).mono ?_
  rintro e w' ⟨rfl, rfl⟩
  obtain ⟨x, hx⟩ : ∃ x, x = upd s l1 := ⟨_, rfl⟩
  have Hx := Lib.hid hx
  rw [← hx]
  clear hx
  go_wp2_with fail
  refine (update_any x _ _ _ l2 _ (by omega) hr2 hT2).mono ?_
  rintro e w' ⟨rfl, rfl⟩
  go_wp2_with fail
  refine (copy_any _ _ _ l1 _ (by omega) hr1).mono ?_
  rintro e w3 ⟨A3, cap3, l3, hl3, rfl, hown3, hb3⟩
  have hr2' := hr2.below hb3 (Nat.le_refl _)
  have hT3 := hT2.below hb3 hT2.pos
  have hk3 : l3.length ≤ 300 := by rw [hl3.out]; exact hk1
  go_wp2_with (at_builtin; refine wpList_append_b rfl (.tmp 18) (.tmp 19) rfl w2.heap.size A3 cap3 l3 rfl hown3 w2.heap.size A2 l2.length cap2 l2 rfl rfl hr2' (by omega) hb3.size ?_; intro A4 cap4 l4 w4 hl4 hown4 hb4 _)
  have hT4 := hT3.below hb4 (by have := hT2.pos; omega)
  have hk4 : l4.length ≤ 600 := by rw [hl4.out, List.length_append]; omega
  have hr4 := hown4.rd
  have he : upd s l4 = upd x l2 := by rw [hl4.out, hl3.out, Hx.out, upd_append]
  go_wp2_with fail
  refine (update_any s _ _ _ l4 _ (by omega) hr4 hT4).mono ?_
  rw [he]
  rintro e w' ⟨rfl, rfl⟩
  clear he
  go_wp2_with fail
  refine (update_any s 0 0 none [] _ (by simp) (Rd.empty _ _ _) hT4).mono ?_
  rw [upd_nil]
  rintro e w' ⟨rfl, rfl⟩
  go_wp2_with fail
  refine (works_any _ hT4).mono ?_
  rintro e w5 ⟨rfl, hb5⟩
  have z1 := hb1.size
  have z2 := hb2.size
  have z3 := hb3.size
  have z4 := hb4.size
  go_wp2
  go_ret
  exact ⟨rfl, (((hb1.trans (hb2.mono z1)).trans (hb3.mono (by omega))).trans (hb4.mono (by omega))).trans (hb5.mono (by omega))⟩

/-- the law on append at an operation that a guard lets by. -/
theorem wpList_append_bg {w : World} {ops : Array Oper} {rest : List Oper} {o : Oper} {a : Act} {Q : Exit → Act → World → Prop} (s x : Operand)
    (ho : o.op = .call { callee := .builtin .append, args := #[s, x], argTypes := #[23, 23] }) (hgd : Region.wanted o (yielded ops a.tmps) = true)
    (base : Nat) (A : Option Addr) (cap : Nat) (l : List Nat) (hs : a.eval s = .slice A l.length cap) (hown : Own w base A cap l)
    (b : Nat) (A2 : Option Addr) (m c : Nat) (news : List Nat) (hx : a.eval x = .slice A2 m c) (hm : news.length = m) (hr : Rd w b A2 news) (hlen : l.length + news.length ≤ 1000000) (hbase : base ≤ w.heap.size)
    (h : ∀ A' cap' l' w', Hid (l' = l ++ news) → Own w' base A' cap' l' → Below base w w' → Hid (w.grownBy w' (Value.slice A l.length cap).ownBlock ∧ ((Value.slice A' l'.length cap').ownBlock = (Value.slice A l.length cap).ownBlock ∨ (Value.slice A' l'.length cap').ownBlock = some w.heap.size)) → wpList Tryd.prog ops Q rest (a.put o.dst (.slice A' l'.length cap')) w') :
    wpList Tryd.prog ops Q (o :: rest) a w := by
  unfold wpList
  rw [if_pos hgd]
  exact .inl (wp_append_b s x ho base A cap l hs hown b A2 m c news hx hm hr hlen hbase h)
set_option maxHeartbeats 400000 in
theorem joined_walk (capa : Nat) (A : Option Addr) (la : List Nat) (capb : Nat) (Bd : Option Addr) (lb : List Nat) (w : World) (ha : la.length ≤ capa) (hma : la.length ≤ 9223372036854775807) (hra : Rd w w.heap.size A la)
    (hb : lb.length ≤ capb) (hmb : lb.length ≤ 9223372036854775807) (hrb : Rd w w.heap.size Bd lb) (hT : HasTab w) :
    Calls Tryd.prog 6 #[.slice A la.length capa, .slice Bd lb.length capb] w fun e w' => e = .returned (.bool true) ∧ Below w.heap.size w w' := by
  have h0 := hT.pos
  go_enter Tryd.func6, Tryd.ntmps6
  go_wp2_with fail
  refine (cut_any w.heap.size capa A la _ ha hma hra).mono ?_
  rintro e w1 ⟨A1, cap1, l1, hl1, rfl, hown1, hb1⟩
  have hk1 := take_le la l1 300 hl1
  have hrb1 := hrb.below hb1 (Nat.le_refl _)
  have hT1 := hT.below hb1 h0
  go_wp2_with fail
  refine (cut_any w.heap.size capb Bd lb _ hb hmb hrb1).mono ?_
  rintro e w2 ⟨A2, cap2, l2, hl2, rfl, hown2, hb2⟩
  have hk2 := take_le lb l2 300 hl2
  have hT2 := hT1.below hb2 hT1.pos
  have hr1 := (hown1.rd).below hb2 (Nat.le_refl _)
  have hr2 := hown2.rd
  go_wp2_with fail
  refine (sum_any _ _ _ l1 _ (by omega) hr1 hT2).mono ?_
  rintro e w' ⟨rfl, rfl⟩
  go_wp2_with fail
  refine (sum_any _ _ _ l2 _ (by omega) hr2 hT2).mono ?_
  rintro e w' ⟨rfl, rfl⟩
  go_wp2_with fail
  refine (join_any _ _ l2.length (by omega) _).mono ?_
  rintro e w3 ⟨rfl, hb3⟩
  have hr1' := hr1.below hb3 (by have := hb2.size; omega)
  have hr2' := hr2.below hb3 (Nat.le_refl _)
  have hT3 := hT2.below hb3 hT2.pos
  obtain ⟨x, hx⟩ : ∃ x, x = join (sum l1) (sum l2) l2.length := ⟨_, rfl⟩
  have Hx := Lib.hid hx
  rw [← hx]
  clear hx
  go_wp2_with fail
  refine (copy_any _ _ _ l1 _ (by omega) hr1').mono ?_
  rintro e w4 ⟨A4, cap4, l4, hl4, rfl, hown4, hb4⟩
  have hr2'' := hr2'.below hb4 (by have := hb3.size; omega)
  have hT4 := hT3.below hb4 hT3.pos
  have hk4 : l4.length ≤ 300 := by rw [hl4.out]; exact hk1
  go_wp2_with (at_builtin; refine wpList_append_bg (.tmp 26) (.tmp 27) rfl rfl w3.heap.size A4 cap4 l4 rfl hown4 w2.heap.size A2 l2.length cap2 l2 rfl rfl hr2'' (by omega) hb4.size ?_; intro A5 cap5 l5 w5 hl5 hown5 hb5 _)
  have hT5 := hT4.below hb5 (by have := hT3.pos; omega)
  have hk5 : l5.length ≤ 600 := by rw [hl5.out, List.length_append]; omega
  have hr5 := hown5.rd
  have he : sum l5 = x := by rw [hl5.out, hl4.out, Hx.out, join_sums]
  go_wp2_with fail
  refine (sum_any _ _ _ l5 _ (by omega) hr5 hT5).mono ?_
  rw [he]
  rintro e w' ⟨rfl, rfl⟩
  clear he
  go_wp2_with fail
  refine (works_any _ hT5).mono ?_
  rintro e w6 ⟨rfl, hb6⟩
  have z1 := hb1.size
  have z2 := hb2.size
  have z3 := hb3.size
  have z4 := hb4.size
  have z5 := hb5.size
  go_wp2
  go_ret
  exact ⟨rfl, ((((hb1.trans (hb2.mono z1)).trans (hb3.mono (by omega))).trans (hb4.mono (by omega))).trans (hb5.mono (by omega))).trans (hb6.mono (by omega))⟩
end Go.Proofs.YtahooodkklgeiaaDoor

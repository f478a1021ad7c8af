/-
  CONTRACTS of the law's ints, words, others, back, kept.
-/
import Derived.Test.YtnkioabdpploeaaGreatDoorRows
import Derived.Test.YtnkioabdpploeaaGreatDoorGBase
import Derived.Test.YtnkioabdpploeaaGreatDoorSSameT
import Derived.Test.YtnkioabdpploeaaGreatDoorGApt
set_option linter.unusedVariables false
set_option linter.unusedSimpArgs false
namespace Go.Proofs.YtnkioabdpploeaaGreatDoor
open Go.RowKit Go.Lib
set_option maxRecDepth 100000 in
set_option maxHeartbeats 1000000 in
theorem ints_any (v : Value) (l : List Int) (w : World) (h1 : IntsAt w v l) (hn : l.length ≤ 1099511627776) :
    Calls Tryz.prog 5 #[v] w fun e w' => ∃ g cap, e = .returned (.slice (some ⟨g, 0, none⟩) l.length cap) ∧ w.heap.size ≤ g ∧ MkI w' g cap l ∧ Below w.heap.size w w' := by
  obtain ⟨A, c, rfl, -⟩ := id h1
  have H := hide h1; clear h1
  go_enter Tryz.func5, Tryz.ntmps5
  go_wp2_with (first
    | (at_builtin; refine wpList_appI w rfl _ _ rfl (show OwnI w w.heap.size (.slice none 0 0) [] from World.ownsRow_nil _ _ _ _) rfl (unhide H) rfl (by simp; omega) (Nat.le_refl _) ?_; intro v1 w2 hO1 hg1 hat1; have hb1 : Below w.heap.size w w2 := (Below.refl _ w).grown hg1 (Nat.le_refl _) (fun k hk => by cases hk); rw [List.nil_append] at hO1; have H1 := hide (And.intro hO1 hb1); have hs1 := Lib.hid hb1.size; clear hO1 hg1 hat1 hb1)
    | (at_builtin; refine wpList_appI1 w2 rfl _ _ rfl (unhide H1).1 rfl rfl (by omega) hs1.out ?_; intro v2 w3 hO2 hg2 hat2; have hb2 := appI_below (unhide H1).2 (unhide H1).1 hs1.out hg2; obtain ⟨g, cap, rfl, hgb, hO3, hcp⟩ := own_slice_ne hO2 (by simp); rw [appI_marks] at hcp ⊢; have hM : MkI w3 g cap l := (by unfold OwnI at hO3; rw [appI_marks] at hO3; exact hO3); have H2 := hide (And.intro hgb (And.intro hM hb2)); clear hO2 hg2 hat2 hgb hO3 hb2 hM; have u1 : (l.length : Int) ≤ (cap : Int) := by omega))
  go_ret
  exact ⟨_, _, rfl, unhide H2⟩
theorem appT_marks (l : List ByteArray) (z : ByteArray) : (l ++ [z]).length = l.length + 1 := by simp
/-- append(v, x...) of texts. -/
theorem wpList_appT27 {ops : Array Oper} {rest : List Oper} {o : Oper} {a : Act} {Q : Exit → Act → World → Prop} (w : World) (hgd : o.guard = none) (s x : Operand)
    (ho : o.op = .call { callee := .builtin .append, args := #[s, x], argTypes := #[23, 23] })
    {base : Nat} {v : Value} {es : List ByteArray} (hown : OwnT w base v es) (hs : a.eval s = v) {A : Option Addr} {m c : Nat} {es2 : List ByteArray} (hr : StrsAt w (.slice A m c) es2) (hx : a.eval x = .slice A m c)
    (h47 : es.length + es2.length ≤ 4398046511104) (hbase : base ≤ w.heap.size)
    (h : ∀ v' w', OwnT w' base v' (es ++ es2) → w.grownBy w' v.ownBlock → (v'.ownBlock = v.ownBlock ∨ v'.ownBlock = some w.heap.size) → wpList Tryz.prog ops Q rest (a.put o.dst v') w') : wpList Tryz.prog ops Q (o :: rest) a w := by
  obtain ⟨i, hi, hz, hs1, hb1⟩ := info_parts strInfo
  obtain ⟨hm, hrd⟩ := hr.reads
  refine wpList_append_any (w := w) hgd s x 23 ho base 9 i (.string ⟨#[]⟩) 1 16 Tryz.underlying23 hi hz hs1 hb1 rfl (by decide) v es.length (es.map Value.string) hs hown w.heap.size A m c (es2.map Value.string) hx hrd ?_ ?_ ?_ hbase ?_
  · intro u hu
    obtain ⟨y, _, rfl⟩ := List.mem_map.1 hu
    rfl
  · simp only [maxLen]; omega
  · omega
  · intro v' w' h1 h2 h3
    refine h v' w' ?_ h2 h3
    unfold OwnT
    rw [List.map_append, List.length_append, ← hm]
    exact h1
theorem wpList_appS27 {ops : Array Oper} {rest : List Oper} {o : Oper} {a : Act} {Q : Exit → Act → World → Prop} (w : World) (hgd : o.guard = none) (s x : Operand)
    (ho : o.op = .call { callee := .builtin .append, args := #[s, x], argTypes := #[23, 23] })
    {base : Nat} {v : Value} {es : List ByteArray} (hown : OwnT w base v es) (hs : a.eval s = v) {z : ByteArray} (hx : a.eval x = .slice (some ⟨w.heap.size, 0, none⟩) 1 1)
    (h47 : es.length + 1 ≤ 4398046511104) (hbase : base ≤ w.heap.size)
    (h : ∀ v' w', OwnT w' base v' (es ++ [z]) → (w.alloc (.cells #[.string z] 9)).grownBy w' v.ownBlock → (v'.ownBlock = v.ownBlock ∨ v'.ownBlock = some (w.heap.size + 1)) → wpList Tryz.prog ops Q rest (a.put o.dst v') w') :
    wpList Tryz.prog ops Q (o :: rest) a (w.alloc (.cells #[.string z] 9)) := by
  refine wpList_appT27 _ hgd s x ho (World.ownsRow.alloc hown _) hs (es2 := [z]) (one_strs w z) hx (by simpa using h47) (by simp; omega) (fun v' w' h1 h2 h3 => h v' w' h1 h2 (by simpa using h3))
theorem appT_below27 {B : Nat} {w W W' : World} {v : Value} {es : List ByteArray} {o : Obj} (hb : Below B w W) (hO : OwnT W B v es) (hW : B ≤ W.heap.size) (hg : (W.alloc o).grownBy W' v.ownBlock) : Below B w W' :=
  (hb.alloc hW o).grown hg (by simp; omega) (fun k hk => (World.ownsRow.lt hO k hk).1)
set_option maxRecDepth 100000 in
set_option maxHeartbeats 1000000 in
theorem words_any27 (v : Value) (l : List ByteArray) (w : World) (h1 : StrsAt w v l) (hn : l.length ≤ 1099511627776) :
    Calls Tryz.prog 6 #[v] w fun e w' => ∃ g cap, e = .returned (.slice (some ⟨g, 0, none⟩) l.length cap) ∧ w.heap.size ≤ g ∧ MkT w' g cap l ∧ Below w.heap.size w w' := by
  obtain ⟨A, c, rfl, -⟩ := id h1
  have H := hide h1; clear h1
  go_enter Tryz.func6, Tryz.ntmps6
  go_wp2_with (first
    | (at_builtin; refine wpList_appT27 w rfl _ _ rfl (show OwnT w w.heap.size (.slice none 0 0) [] from World.ownsRow_nil _ _ _ _) rfl (unhide H) rfl (by simp; omega) (Nat.le_refl _) ?_; intro v1 w2 hO1 hg1 hat1; have hb1 : Below w.heap.size w w2 := (Below.refl _ w).grown hg1 (Nat.le_refl _) (fun k hk => by cases hk); rw [List.nil_append] at hO1; have H1 := hide (And.intro hO1 hb1); have hs1 := Lib.hid hb1.size; clear hO1 hg1 hat1 hb1)
    | (at_builtin; refine wpList_appS27 w2 rfl _ _ rfl (unhide H1).1 rfl rfl (by omega) hs1.out ?_; intro v2 w3 hO2 hg2 hat2; have hb2 := appT_below27 (unhide H1).2 (unhide H1).1 hs1.out hg2; obtain ⟨g, cap, rfl, hgb, hO3, hcp⟩ := own_sliceT_ne hO2 (by simp); rw [appT_marks] at hcp ⊢; have hM : MkT w3 g cap l := (by unfold OwnT at hO3; rw [appT_marks] at hO3; exact hO3); have H2 := hide (And.intro hgb (And.intro hM hb2)); clear hO2 hg2 hat2 hgb hO3 hb2 hM; have u1 : (l.length : Int) ≤ (cap : Int) := by omega))
  go_ret
  exact ⟨_, _, rfl, unhide H2⟩
/-- Two blocks alone were written. -/
structure But2 (g h : Nat) (w w' : World) : Prop where
  os : w'.os = w.os
  tape : w'.tape = w.tape
  output : w'.output = w.output
  size : w'.heap.size = w.heap.size
  block : ∀ k, k ≠ g → k ≠ h → w'.heap[k]? = w.heap[k]?
theorem But2.refl (g h : Nat) (w : World) : But2 g h w w := ⟨rfl, rfl, rfl, rfl, fun _ _ _ => rfl⟩
theorem But2.set {g h : Nat} {a w : World} (hb : But2 g h a w) {p : Addr} (hp : p.block = g ∨ p.block = h) (u : Value) : But2 g h a (w.setCell p u) :=
  ⟨hb.os, hb.tape, hb.output, by rw [← hb.size]; simp [World.setCell], fun k h1 h2 => by
    rw [Below.heap_setCell _ _ _ _ (fun e => by rcases hp with hp | hp <;> omega)]; exact hb.block k h1 h2⟩
theorem But2.below {g h B : Nat} {a w : World} (hb : But2 g h a w) (hg : B ≤ g) (hh : B ≤ h) : Below B a w := ⟨hb.os, hb.tape, hb.output, Nat.le_of_eq hb.size.symm, fun k hk => hb.block k (by omega) (by omega)⟩
theorem But2.blk {g h k : Nat} {a w : World} {T : TypeId} {cs : Array Value} (hb : But2 g h a w) (hB : Blk a k T cs) (h1 : k ≠ g) (h2 : k ≠ h) : Blk w k T cs := (hb.block k h1 h2).trans hB
theorem mk_ne {W : World} {g h c d : Nat} {l : List Int} {s : List ByteArray} (hN : MkI W g c l) (hS : MkT W h d s) : g ≠ h := fun e => by
  rcases row_ne hN hS (by decide) with h1 | h1
  · cases h1
  · exact h1 (by rw [e]; rfl)
theorem MkI.blk_ne {W : World} {g c k : Nat} {l : List Int} {T : TypeId} {cs : Array Value} (hN : MkI W g c l) (hB : Blk W k T cs) (hT : 3 ≠ T) : k ≠ g := fun e => own_blk_ne hN hB hT (by rw [e]; rfl)
theorem MkT.blk_ne {W : World} {g c k : Nat} {l : List ByteArray} {T : TypeId} {cs : Array Value} (hN : MkT W g c l) (hB : Blk W k T cs) (hT : 9 ≠ T) : k ≠ g := fun e => own_blk_ne hN hB hT (by rw [e]; rfl)
theorem MkI.set {W : World} {g cap : Nat} {l : List Int} (h : MkI W g cap l) (j : Nat) (hj : j < l.length) (z : Int) : MkI (W.setCell ⟨g, j, none⟩ (.int .i64 z)) g cap (l.set j z) := by
  have h1 := row_set h j (by omega) (.int .i64 z)
  unfold MkI
  rw [List.length_set, show (l.set j z ++ [-7]) = (l ++ [-7]).set j z by rw [List.set_append_left _ _ hj], List.map_set]
  exact h1
theorem MkT.set {W : World} {g cap : Nat} {l : List ByteArray} (h : MkT W g cap l) (j : Nat) (hj : j < l.length) (z : ByteArray) : MkT (W.setCell ⟨g, j, none⟩ (.string z)) g cap (l.set j z) := by
  have h1 := row_set h j (by omega) (.string z)
  unfold MkT
  rw [List.length_set, show (l.set j z ++ [markS]) = (l ++ [markS]).set j z by rw [List.set_append_left _ _ hj], List.map_set]
  exact h1
theorem MkI.far {W : World} {g cap k j : Nat} {l : List Int} (h : MkI W g cap l) (hk : g ≠ k) (u : Value) : MkI (W.setCell ⟨k, j, none⟩ u) g cap l := row_store_ne h (fun e => hk (by simpa [Value.ownBlock] using e)) u
theorem MkT.far {W : World} {g cap k j : Nat} {l : List ByteArray} (h : MkT W g cap l) (hk : g ≠ k) (u : Value) : MkT (W.setCell ⟨k, j, none⟩ u) g cap l := row_store_ne h (fun e => hk (by simpa [Value.ownBlock] using e)) u
theorem MkI.low {W W' : World} {g cap : Nat} {l : List Int} (h : MkI W g cap l) (hb : Below W.heap.size W W') : MkI W' g cap l := row_low h (fun k hk => (World.ownsRow.lt h k hk).2) hb
theorem MkT.low {W W' : World} {g cap : Nat} {l : List ByteArray} (h : MkT W g cap l) (hb : Below W.heap.size W W') : MkT W' g cap l := row_low h (fun k hk => (World.ownsRow.lt h k hk).2) hb
theorem MkI.cell {W : World} {g cap : Nat} {l : List Int} (h : MkI W g cap l) (j : Nat) (hj : j < l.length) : W.cell? ⟨g, j, none⟩ = some (.int .i64 l[j]) := by
  rw [World.ownsRow.cellAt h j (by omega), List.getElem?_map, List.getElem?_append_left hj, List.getElem?_eq_getElem hj]; rfl
theorem MkT.cell {W : World} {g cap : Nat} {l : List ByteArray} (h : MkT W g cap l) (j : Nat) (hj : j < l.length) : W.cell? ⟨g, j, none⟩ = some (.string l[j]) := by
  rw [World.ownsRow.cellAt h j (by omega), List.getElem?_map, List.getElem?_append_left hj, List.getElem?_eq_getElem hj]; rfl
def otherS : ByteArray := ⟨#[111, 116, 104, 101, 114]⟩
theorem all_set {α : Type} {P : α → Prop} {l : List α} (h : ∀ z ∈ l, P z) (j : Nat) (y : α) (hy : P y) : ∀ z ∈ l.set j y, P z := fun z hz => by
  rcases List.mem_or_eq_of_mem_set hz with h1 | h1
  · exact h z h1
  · rw [h1]; exact hy
set_option maxRecDepth 100000 in
set_option maxHeartbeats 1000000 in
theorem others_any (gN cN gS cS B : Nat) (lN : List Int) (lS : List ByteArray) (w : World) (hN : MkI w gN cN lN) (hS : MkT w gS cS lS) (hzN : ∀ z ∈ lN, In64 z) (hzS : ∀ x ∈ lS, x.size ≤ B) (hB : 5 ≤ B) (hn : lN.length ≤ 1099511627776) (hs : lS.length ≤ 1099511627776) :
    Calls Tryz.prog 7 #[.slice (some ⟨gN, 0, none⟩) lN.length cN, .slice (some ⟨gS, 0, none⟩) lS.length cS] w fun e w' => e = .returned (.tuple #[]) ∧ ∃ lN' lS', lN'.length = lN.length ∧ lS'.length = lS.length ∧ (∀ z ∈ lN', In64 z) ∧ (∀ x ∈ lS', x.size ≤ B) ∧ MkI w' gN cN lN' ∧ MkT w' gS cS lS' ∧ But2 gN gS w w' := by
  have H := hide (And.intro hN (And.intro hS (And.intro hzN hzS)))
  have hne := mk_ne hN hS
  clear hN hS hzN hzS
  go_enter Tryz.func7, Tryz.ntmps7
  go_wp2_with fail
  go_loopw [4] (fun i W => ∃ (j : Nat) (l : List Int), i = .int .i64 (j : Int) ∧ j ≤ lN.length ∧ Hid (l.length = lN.length ∧ ∀ z ∈ l, In64 z) ∧ MkI W gN cN l ∧ MkT W gS cS lS ∧ But2 gN gS w W) (fun i _ => lN.length - (RowKit.intOf i).toNat)
  case atStart => exact ⟨0, lN, rfl, Nat.zero_le _, Lib.hid ⟨rfl, (unhide H).2.2.1⟩, (unhide H).1, (unhide H).2.1, But2.refl _ _ _⟩
  case round =>
    obtain ⟨j, l, rfl, hj, hl, hI, hT, hb⟩ := hrel
    have t0 : (0 : Int) ≤ (j : Int) := by omega
    rcases Nat.lt_or_ge j lN.length with hlt | hge
    · have t1 : (j : Int) < (lN.length : Int) := by omega
      have qb : j ≤ 1099511627776 := by omega
      have c0 := hI.cell j (by rw [hl.out.1]; exact hlt)
      have f0 := row_frozen hI j
      have hz : Hid (In64 (3 + (j : Int))) := Lib.hid ⟨by omega, by omega⟩
      generalize l[j]'(by rw [hl.out.1]; exact hlt) = x at *
      have HX := hide (And.intro (hI.set j (by rw [hl.out.1]; exact hlt) (3 + (j : Int))) (And.intro (hT.far (j := j) hne.symm (.int .i64 (3 + (j : Int)))) (hb.set (p := ⟨gN, j, none⟩) (Or.inl rfl) (.int .i64 (3 + (j : Int))))))
      have HL : Hid ((l.set j (3 + (j : Int))).length = lN.length ∧ ∀ z ∈ l.set j (3 + (j : Int)), In64 z) := Lib.hid ⟨by rw [List.length_set]; exact hl.out.1, all_set hl.out.2 _ _ hz.out⟩
      clear hI hT hb hl hz
      go_wp2_with fail
      exact ⟨⟨j + 1, _, by go_num, by omega, HL, (unhide HX).1, (unhide HX).2.1, (unhide HX).2.2⟩, by simp [RowKit.intOf]; omega⟩
    · have t1 : ¬ (j : Int) < (lN.length : Int) := by omega
      have HX := hide (And.intro hI (And.intro hT hb))
      clear hI hT hb
      go_wp2_with fail
      obtain ⟨w1, rfl⟩ : ∃ w1 : World, w1 = wr := ⟨_, rfl⟩
      go_loopw [5] (fun i W => ∃ (q : Nat) (s : List ByteArray), i = .int .i64 (q : Int) ∧ q ≤ lS.length ∧ Hid (s.length = lS.length ∧ ∀ x ∈ s, x.size ≤ B) ∧ MkI W gN cN l ∧ MkT W gS cS s ∧ But2 gN gS w W) (fun i _ => lS.length - (RowKit.intOf i).toNat)
      case atStart => exact ⟨0, lS, rfl, Nat.zero_le _, Lib.hid ⟨rfl, (unhide H).2.2.2⟩, (unhide HX).1, (unhide HX).2.1, (unhide HX).2.2⟩
      case round =>
        obtain ⟨q, s, rfl, hq, hs2, hI, hT, hb⟩ := hrel
        clear HX
        have t2 : (0 : Int) ≤ (q : Int) := by omega
        rcases Nat.lt_or_ge q lS.length with hlt | hge2
        · have t3 : (q : Int) < (lS.length : Int) := by omega
          have qb : q ≤ 1099511627776 := by omega
          have c0 := hT.cell q (by rw [hs2.out.1]; exact hlt)
          have f0 := row_frozen hT q
          generalize s[q]'(by rw [hs2.out.1]; exact hlt) = x at *
          have HX := hide (And.intro (hI.far (j := q) hne (.string otherS)) (And.intro (hT.set q (by rw [hs2.out.1]; exact hlt) otherS) (hb.set (p := ⟨gS, q, none⟩) (Or.inr rfl) (.string otherS))))
          have HL : Hid ((s.set q otherS).length = lS.length ∧ ∀ x ∈ s.set q otherS, x.size ≤ B) := Lib.hid ⟨by rw [List.length_set]; exact hs2.out.1, all_set hs2.out.2 _ _ hB⟩
          clear hI hT hb hs2
          go_wp2_with fail
          exact ⟨⟨q + 1, _, by go_num, by omega, HL, (unhide HX).1, (unhide HX).2.1, (unhide HX).2.2⟩, by simp [RowKit.intOf]; omega⟩
        · have t3 : ¬ (q : Int) < (lS.length : Int) := by omega
          have HX := hide (And.intro hI (And.intro hT hb))
          clear hI hT hb
          go_wp2_with fail
          go_end0
          exact ⟨rfl, l, hl.out.1, s, hs2.out.1, hl.out.2, hs2.out.2, unhide HX⟩
theorem set_take {α : Type} (l m : List α) (j : Nat) (hj : j < m.length) (hl : l.length = m.length) (h : l.take j = m.take j) : (l.set j m[j]).take (j + 1) = m.take (j + 1) := by
  apply List.ext_getElem?
  intro i
  rw [List.getElem?_take, List.getElem?_take]
  split
  · rename_i hi
    rw [List.getElem?_set]
    by_cases e : j = i
    · subst e; rw [if_pos rfl, if_pos (by omega), List.getElem?_eq_getElem hj]
    · rw [if_neg e]
      have h2 := congrArg (fun l => l[i]?) h
      simp only [List.getElem?_take] at h2
      rw [if_pos (by omega), if_pos (by omega)] at h2
      exact h2
  · rfl
set_option maxRecDepth 100000 in
set_option maxHeartbeats 1000000 in
theorem back_any (gN cN gS cS : Nat) (lN m : List Int) (lS t : List ByteArray) (vm vt : Value) (w : World) (hN : MkI w gN cN lN) (hS : MkT w gS cS lS) (hm : ∀ W, But2 gN gS w W → IntsAt W vm m) (ht : ∀ W, But2 gN gS w W → StrsAt W vt t) (e1 : lN.length = m.length) (e2 : lS.length = t.length) (hn : m.length ≤ 1099511627776) (hs : t.length ≤ 1099511627776) :
    Calls Tryz.prog 9 #[.slice (some ⟨gN, 0, none⟩) m.length cN, vm, .slice (some ⟨gS, 0, none⟩) t.length cS, vt] w fun e w' => e = .returned (.tuple #[]) ∧ MkI w' gN cN m ∧ MkT w' gS cS t ∧ But2 gN gS w w' := by
  obtain ⟨A, c, rfl, -⟩ := id (hm w (But2.refl _ _ _))
  obtain ⟨B, d, rfl, -⟩ := id (ht w (But2.refl _ _ _))
  have H := hide (And.intro hN (And.intro hS (And.intro hm ht)))
  have hne := mk_ne hN hS
  clear hN hS hm ht
  go_enter Tryz.func9, Tryz.ntmps9
  go_wp2_with fail
  go_loopw [8] (fun i W => ∃ (j : Nat) (l : List Int), i = .int .i64 (j : Int) ∧ j ≤ m.length ∧ Hid (l.length = m.length ∧ l.take j = m.take j) ∧ MkI W gN cN l ∧ MkT W gS cS lS ∧ But2 gN gS w W) (fun i _ => m.length - (RowKit.intOf i).toNat)
  case atStart => exact ⟨0, lN, rfl, Nat.zero_le _, Lib.hid ⟨e1, rfl⟩, (unhide H).1, (unhide H).2.1, But2.refl _ _ _⟩
  case round =>
    obtain ⟨j, l, rfl, hj, hl, hI, hT, hb⟩ := hrel
    have t0 : (0 : Int) ≤ (j : Int) := by omega
    rcases Nat.lt_or_ge j m.length with hlt | hge
    · have t1 : (j : Int) < (m.length : Int) := by omega
      have qb : j ≤ 1099511627776 := by omega
      obtain ⟨a, rfl, ca⟩ := ints_at ((unhide H).2.2.1 _ hb) j hlt
      have c0 := hI.cell j (by rw [hl.out.1]; exact hlt)
      have f0 := row_frozen hI j
      have HX := hide (And.intro (hI.set j (by rw [hl.out.1]; exact hlt) m[j]) (And.intro (hT.far (j := j) hne.symm (.int .i64 m[j])) (hb.set (p := ⟨gN, j, none⟩) (Or.inl rfl) (.int .i64 m[j]))))
      have HL : Hid ((l.set j m[j]).length = m.length ∧ (l.set j m[j]).take (j + 1) = m.take (j + 1)) := Lib.hid ⟨by rw [List.length_set]; exact hl.out.1, set_take l m j hlt hl.out.1 hl.out.2⟩
      generalize l[j]'(by rw [hl.out.1]; exact hlt) = x at *
      generalize m[j] = y at *
      clear hI hT hb hl
      go_wp2_with fail
      exact ⟨⟨j + 1, _, by go_num, by omega, HL, (unhide HX).1, (unhide HX).2.1, (unhide HX).2.2⟩, by simp [RowKit.intOf]; omega⟩
    · have t1 : ¬ (j : Int) < (m.length : Int) := by omega
      have hlm : l = m := by have h := hl.out.2; rwa [List.take_of_length_le (by rw [hl.out.1]; exact hge), List.take_of_length_le hge] at h
      subst hlm
      have HX := hide (And.intro hI (And.intro hT hb))
      clear hI hT hb hl
      go_wp2_with fail
      obtain ⟨w1, rfl⟩ : ∃ w1 : World, w1 = wr := ⟨_, rfl⟩
      go_loopw [9] (fun i W => ∃ (q : Nat) (s : List ByteArray), i = .int .i64 (q : Int) ∧ q ≤ t.length ∧ Hid (s.length = t.length ∧ s.take q = t.take q) ∧ MkI W gN cN l ∧ MkT W gS cS s ∧ But2 gN gS w W) (fun i _ => t.length - (RowKit.intOf i).toNat)
      case atStart => exact ⟨0, lS, rfl, Nat.zero_le _, Lib.hid ⟨e2, rfl⟩, (unhide HX).1, (unhide HX).2.1, (unhide HX).2.2⟩
      case round =>
        obtain ⟨q, s, rfl, hq, hs2, hI, hT, hb⟩ := hrel
        clear HX
        have t2 : (0 : Int) ≤ (q : Int) := by omega
        rcases Nat.lt_or_ge q t.length with hlt | hge2
        · have t3 : (q : Int) < (t.length : Int) := by omega
          have qb : q ≤ 1099511627776 := by omega
          obtain ⟨a, rfl, ca⟩ := strs_at ((unhide H).2.2.2 _ hb) q hlt
          have c0 := hT.cell q (by rw [hs2.out.1]; exact hlt)
          have f0 := row_frozen hT q
          have HX := hide (And.intro (hI.far (j := q) hne (.string t[q])) (And.intro (hT.set q (by rw [hs2.out.1]; exact hlt) t[q]) (hb.set (p := ⟨gS, q, none⟩) (Or.inr rfl) (.string t[q]))))
          have HL : Hid ((s.set q t[q]).length = t.length ∧ (s.set q t[q]).take (q + 1) = t.take (q + 1)) := Lib.hid ⟨by rw [List.length_set]; exact hs2.out.1, set_take s t q hlt hs2.out.1 hs2.out.2⟩
          generalize s[q]'(by rw [hs2.out.1]; exact hlt) = x at *
          generalize t[q] = y at *
          clear hI hT hb hs2
          go_wp2_with fail
          exact ⟨⟨q + 1, _, by go_num, by omega, HL, (unhide HX).1, (unhide HX).2.1, (unhide HX).2.2⟩, by simp [RowKit.intOf]; omega⟩
        · have t3 : ¬ (q : Int) < (t.length : Int) := by omega
          have hst : s = t := by have h := hs2.out.2; rwa [List.take_of_length_le (by rw [hs2.out.1]; exact hge2), List.take_of_length_le hge2] at h
          subst hst
          have HX := hide (And.intro hI (And.intro hT hb))
          clear hI hT hb hs2
          go_wp2_with fail
          go_end0
          exact ⟨rfl, unhide HX⟩
set_option maxRecDepth 100000 in
set_option maxHeartbeats 1000000 in
theorem kept_any (gN cN gS cS : Nat) (m : List Int) (t : List ByteArray) (vm vt : Value) (w : World) (hN : MkI w gN cN m) (hS : MkT w gS cS t) (hm : IntsAt w vm m) (ht : StrsAt w vt t) (hn : m.length ≤ 1099511627776) (hs : t.length ≤ 1099511627776) :
    Calls Tryz.prog 14 #[.slice (some ⟨gN, 0, none⟩) m.length cN, vm, .slice (some ⟨gS, 0, none⟩) t.length cS, vt] w fun e w' => e = .returned (.bool true) ∧ ∃ n, w' = w.drewN n := by
  have hI := sameInts27_eq _ vm m w (by omega) (hN.ints cN) hm
  have hT := fun n => sameTexts27_eq _ vt t (w.drewN n) (by omega) (hS.strs cS) ht
  have m0 := hN.mark
  have m1 := hS.mark
  have k0 := hN.cap
  have k1 := hS.cap
  obtain ⟨A, c, rfl, -⟩ := id hm
  obtain ⟨B, d, rfl, -⟩ := id ht
  have HI := hide hI; have HT := hide hT; have HM := hide (And.intro m0 m1)
  clear hI hT hN hS hm ht m0 m1
  have u0 : (m.length : Int) + 1 ≤ (cN : Int) := by omega
  have u1 : (t.length : Int) + 1 ≤ (cS : Int) := by omega
  have u2 : (m.length : Int) < (m.length : Int) + 1 := by omega
  have u3 : (t.length : Int) < (t.length : Int) + 1 := by omega
  go_enter Tryz.func14, Tryz.ntmps14
  go_wp2_with fail
  refine (unhide HI).mono ?_
  rintro e1 w1 ⟨rfl, n1, rfl⟩
  clear HI
  go_wp2_with fail
  refine (unhide HT n1).mono ?_
  rintro e2 w2 ⟨rfl, n2, rfl⟩
  have c0 : (w.drewN (n1 + n2)).cell? ⟨gN, m.length, none⟩ = some (.int .i64 (-7)) := (unhide HM).1
  have c1 : (w.drewN (n1 + n2)).cell? ⟨gS, t.length, none⟩ = some (.string markS) := (unhide HM).2
  unfold markS at c1
  clear HT
  go_wp2_with fail
  go_ret
  exact ⟨rfl, n1 + n2, by first | rfl | simp⟩
end Go.Proofs.YtnkioabdpploeaaGreatDoor

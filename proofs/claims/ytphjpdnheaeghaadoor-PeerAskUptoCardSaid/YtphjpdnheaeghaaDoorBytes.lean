/-
  WORDS on slices of bytes that the call itself owns: what they hold, append, conversions there and back.
-/
import Derived.Test.YtphjpdnheaeghaaDoorRows
import Derived.Test.YtphjpdnheaeghaaDoorWd
import Derived.Lib.FrozenHead2
import Derived.Lib.ConvBytes
import Derived.Lib.AppendStr
import Derived.Laws.IdiomStrings
set_option linter.unusedVariables false
set_option linter.unusedSimpArgs false
namespace Go.Proofs.YtphjpdnheaeghaaDoor
open Go.RowKit Go.Lib
/-- The slice v of bytes owns a row from block 'base' on and holds the bytes bs; nothing of its places is frozen. -/
def OwnB (w : World) (base : Nat) (v : Value) (bs : List UInt8) : Prop :=
  (v = .slice none 0 0 ∧ bs = []) ∨
  ∃ g cap cur fz, v = .slice (some ⟨g, 0, none⟩) bs.length cap ∧ base ≤ g ∧ w.heap[g]? = some (.cells cur 5 fz) ∧ (fz.2 = 0 ∨ cap ≤ fz.1) ∧ bs.length ≤ cap ∧ cap ≤ maxLen ∧ cur.size = cap ∧ cur.toList.take bs.length = byteCells bs
theorem OwnB.nil (w : World) (base : Nat) : OwnB w base (.slice none 0 0) [] := .inl ⟨rfl, rfl⟩
theorem OwnB.of_row {w : World} {base : Nat} {v : Value} {bs : List UInt8} (h : w.ownsRow base 5 1 v bs.length (byteCells bs)) : OwnB w base v bs := by
  rcases h.2 with ⟨rfl, hn⟩ | ⟨g, cap, cur, rfl, hb, hg, hnc, hcm, hcs, htk⟩
  · exact .inl ⟨rfl, List.eq_nil_of_length_eq_zero hn⟩
  · exact .inr ⟨g, cap, cur, (0, 0), rfl, hb, hg, .inl rfl, hnc, hcm, by simpa using hcs, by simpa using htk⟩
theorem OwnB.lt {w : World} {base : Nat} {v : Value} {bs : List UInt8} (h : OwnB w base v bs) : ∀ k, v.ownBlock = some k → base ≤ k ∧ k < w.heap.size := by
  intro k hk
  rcases h with ⟨rfl, _⟩ | ⟨g, cap, cur, fz, rfl, hb, hg, _⟩
  · simp [Value.ownBlock] at hk
  · simp [Value.ownBlock] at hk
    subst hk
    exact ⟨hb, (Array.getElem?_eq_some_iff.1 hg).1⟩
theorem OwnB.kept {w w' : World} {base : Nat} {v : Value} {bs : List UInt8} {row : Option Nat} (h : OwnB w base v bs) (hg : w.grownBy w' row) (hne : v.ownBlock = none ∨ v.ownBlock ≠ row) : OwnB w' base v bs := by
  rcases h with hn | ⟨g, cap, cur, fz, rfl, hb, hgg, rest⟩
  · exact .inl hn
  · refine .inr ⟨g, cap, cur, fz, rfl, hb, ?_, rest⟩
    rw [hg.block g (Array.getElem?_eq_some_iff.1 hgg).1 (by simpa [Value.ownBlock] using hne)]
    exact hgg
theorem OwnB.alloc {w : World} {base : Nat} {v : Value} {bs : List UInt8} (h : OwnB w base v bs) (o : Obj) : OwnB (w.alloc o) base v bs :=
  h.kept (World.grownBy_alloc w o none) (by cases hv : v.ownBlock <;> simp)
theorem OwnB.drew {w : World} {base : Nat} {v : Value} {bs : List UInt8} (h : OwnB w base v bs) : OwnB w.drew base v bs := h
theorem OwnB.drewN {w : World} {base : Nat} {v : Value} {bs : List UInt8} (h : OwnB w base v bs) (n : Nat) : OwnB (w.drewN n) base v bs := h
theorem OwnB.below {w w' : World} {base : Nat} {v : Value} {bs : List UInt8} (h : OwnB w base v bs) (hb : Below w.heap.size w w') : OwnB w' base v bs :=
  h.kept (only_of_below hb none) (by cases hv : v.ownBlock <;> simp)
theorem OwnB.mono {w : World} {base base' : Nat} {v : Value} {bs : List UInt8} (h : OwnB w base v bs) (hb : base' ≤ base) : OwnB w base' v bs := by
  rcases h with hn | ⟨g, cap, cur, fz, rfl, hb', rest⟩
  · exact .inl hn
  · exact .inr ⟨g, cap, cur, fz, rfl, by omega, rest⟩
theorem OwnB.setCell {w : World} {base : Nat} {v : Value} {bs : List UInt8} (h : OwnB w base v bs) {p : Addr} (hp : v.ownBlock ≠ some p.block) (u : Value) : OwnB (w.setCell p u) base v bs := by
  rcases h with hn | ⟨g, cap, cur, fz, rfl, hb, hgg, rest⟩
  · exact .inl hn
  · refine .inr ⟨g, cap, cur, fz, rfl, hb, ?_, rest⟩
    rw [Below.heap_setCell _ _ _ _ (fun e => hp (by simp [Value.ownBlock, e]))]
    exact hgg
theorem OwnB.cells {w : World} {base : Nat} {v : Value} {bs : List UInt8} (h : OwnB w base v bs) {g : Nat} (hg : v.ownBlock = some g) (j : Nat) (hj : j < bs.length) : w.cell? ⟨g, j, none⟩ = some (.int .u8 (bs[j].toNat : Int)) := by
  rcases h with ⟨rfl, _⟩ | ⟨g', cap, cur, fz, rfl, _, hgg, _, hl, _, hcs, htk⟩
  · simp [Value.ownBlock] at hg
  · simp [Value.ownBlock] at hg
    subst hg
    rw [cell_of_row w g' j cur _ fz hgg]
    have e : (cur.toList.take bs.length)[j]? = (byteCells bs)[j]? := by rw [htk]
    rw [List.getElem?_take, if_pos hj] at e
    simpa [byteCells, hj] using e
/-- Its form: nil and empty, or at the head of a row. -/
theorem OwnB.form {w : World} {base : Nat} {v : Value} {bs : List UInt8} (h : OwnB w base v bs) : (v = .slice none 0 0 ∧ bs = []) ∨ ∃ g cap, v = .slice (some ⟨g, 0, none⟩) bs.length cap ∧ base ≤ g ∧ g < w.heap.size ∧ cap ≤ maxLen := by
  rcases h with h | ⟨g, cap, cur, fz, rfl, hb, hgg, _, _, hcm, _⟩
  · exact .inl h
  · exact .inr ⟨g, cap, rfl, hb, (Array.getElem?_eq_some_iff.1 hgg).1, hcm⟩
theorem run_storeCells_T (P : Program) (g o : Nat) (t : TypeId) (fz : Nat × Nat) : ∀ (vs : List Value) (i : Nat) (cur : Array Value) (w : World), w.heap[g]? = some (.cells cur t fz) → (fz.2 = 0 ∨ cur.size ≤ fz.1) → o + i + vs.length ≤ cur.size → (∀ v ∈ vs, v.oneCell' = true) →
    (storeCells ⟨g, o, none⟩ vs i).run P w = .ok () (w.setRow g (cur.toList.take (o + i) ++ vs ++ cur.toList.drop (o + i + vs.length)).toArray)
  | [], i, cur, w, hg, _, _, _ => by
    simp only [storeCells, List.append_nil, List.length_nil, Nat.add_zero, List.take_append_drop, Array.toArray_toList]
    rw [setRow_self w g cur t fz hg]
    rfl
  | v :: rest, i, cur, w, hg, hfz, hl, h1 => by
    have hi : o + i < cur.size := by simp at hl; omega
    have hadd : (⟨g, o, none⟩ : Addr).add i = ⟨g, o + i, none⟩ := by unfold Addr.add; split <;> simp_all
    have hcell : w.cell? ⟨g, o + i, none⟩ = some cur[o + i] := by simp [World.cell?, hg, hi]
    have hfro : w.frozen? ⟨g, o + i, none⟩ = false := by
      obtain ⟨lo, hi'⟩ := fz
      simp only [World.frozen?, hg, Bool.and_eq_false_iff, decide_eq_false_iff_not]
      simp only at hfz
      omega
    have hst : (store ((⟨g, o, none⟩ : Addr).add i) v).run P w = .ok () (w.setRow g (cur.setIfInBounds (o + i) v)) := by
      rw [hadd, run_store P w _ v _ (h1 v (by simp)), hcell]
      simp [hfro, setCell_eq_setRow w g (o + i) cur t fz v hg]
    have ih := run_storeCells_T P g o t fz rest (i + 1) (cur.setIfInBounds (o + i) v) (w.setRow g (cur.setIfInBounds (o + i) v)) (setRow_heap w g cur _ t _ hg) (by simpa using hfz) (by simp at hl ⊢; omega) (fun x hx => h1 x (by simp [hx]))
    simp only [storeCells, Sem.run_bind, hst, Result.andThen_ok, ih, setRow_setRow]
    congr 3
    have e := list_seg_step cur.toList (o + i) v rest (by simp at hl ⊢; omega)
    simpa [Array.toList_setIfInBounds, Nat.add_assoc] using e
theorem bytes_one (l : List UInt8) : ∀ u ∈ byteCells l, u.oneCell' = true := by
  intro u hu
  obtain ⟨_, _, rfl⟩ := List.mem_map.1 hu
  rfl
theorem byteInfo : (Tryd.prog.info? 5).map (fun i => (i.zero, i.size, i.bytes)) = some (some (.int .u8 0), 1, 1) := by kernel_rfl
theorem take_app (l : List UInt8) (r : List Value) : (byteCells l ++ r).take l.length = byteCells l := by
  rw [List.take_append_of_le_length (by simp [byteCells]), List.take_of_length_le (by simp [byteCells])]
/-- A new row behind an append. -/
theorem OwnB.new (w : World) (base : Nat) (bs : List UInt8) (need old : Nat) (hn : need = bs.length) (h63 : need ≤ maxLen) (hbase : base ≤ w.heap.size) (C : Array Value) (hC : C = (byteCells bs).toArray ++ Builtin.zeroCells (Value.int .u8 0).cells (grownCap w need old 5 - need)) :
    OwnB (w.drew.alloc (.cells C 5)) base (.slice (some ⟨w.heap.size, 0, none⟩) need (grownCap w need old 5)) bs := by
  subst hn hC
  have hge := grownCap_ge w bs.length old 5
  refine .inr ⟨w.heap.size, _, _, (0, 0), rfl, hbase, heap_alloc_new w.drew _, .inl rfl, hge, grownCap_le_maxLen w _ old _ h63, ?_, ?_⟩
  · have hz1 : (Value.int IntKind.u8 0).cells.size = 1 := rfl
    simp only [Array.size_append, List.size_toArray, size_zeroCells, hz1, byteCells_length]
    omega
  · simp only [Array.toList_append]
    exact take_app _ _
/-- append(b, x...): bytes out of memory. -/
theorem run_app_cells (w : World) (ty : TypeId) (base : Nat) (v : Value) (bs : List UInt8) (hown : OwnB w base v bs) (a : Addr) (m c : Nat) (nb : List UInt8) (hm : nb.length = m)
    (hnews : ∀ j u, (byteCells nb)[j]? = some u → w.cell? (a.add j) = some u) (h47 : bs.length + m ≤ 140737488355328) (hbase : base ≤ w.heap.size) :
    ∃ v' w', (Builtin.append_ #[38, 38] ty #[v, .slice (some a) m c]).run Tryd.prog w = .ok v' w' ∧ OwnB w' base v' (bs ++ nb) ∧ w.grownBy w' v.ownBlock ∧ (v'.ownBlock = v.ownBlock ∨ v'.ownBlock = some w.heap.size) := by
  obtain ⟨i, hi, hz, hs1, hb1⟩ := info_parts byteInfo
  have ht := Tryd.underlying38
  have h63 : bs.length + m ≤ maxLen := by simp only [maxLen]; omega
  have hnl : (byteCells nb).length = m * i.size := by rw [hs1, byteCells_length]; omega
  have hone : ∀ u ∈ byteCells nb, u.oneCell' = true := bytes_one nb
  rcases hown with ⟨rfl, rfl⟩ | ⟨g, cap, cur, fz, rfl, hbg, hg, hfz, hnc, hcm, hcs, htk⟩
  · by_cases h0 : m = 0
    · subst h0
      obtain rfl := List.eq_nil_of_length_eq_zero hm
      refine ⟨.slice none 0 0, w, ?_, .inl ⟨rfl, rfl⟩, World.grownBy.refl w _, .inl rfl⟩
      simp [Builtin.append_, run_underlying ht, sizeOf, typeInfo, hi, hs1, Builtin.lenOf, Builtin.firstCells, loadCells, loadCellsFrom]
    · have hr := run_append_nil (P := Tryd.prog) w 38 ty 5 i (.int .u8 0) ht hi hz a m c (byteCells nb) hnl hnews (by omega) (by simp only [maxLen] at h63; omega) (by rw [hb1]; omega)
      exact ⟨_, _, hr, OwnB.new w base nb m 0 hm.symm (by omega) hbase _ rfl, ⟨rfl, rfl, rfl, by simp, fun k hk _ => Below.heap_alloc w.drew _ k hk⟩, .inr rfl⟩
  · by_cases hroom : bs.length + m ≤ cap
    · have hf := run_firstCells_some (P := Tryd.prog) w i.size m a m c (byteCells nb) hnl hnews
      have hst := run_storeCells_T Tryd.prog g (bs.length * i.size) 5 fz (byteCells nb) 0 cur w hg (by rw [hcs]; exact hfz) (by rw [hs1, byteCells_length, hcs]; omega) hone
      have hr : (Builtin.append_ #[38, 38] ty #[.slice (some ⟨g, 0, none⟩) bs.length cap, .slice (some a) m c]).run Tryd.prog w =
          .ok (.slice (some ⟨g, 0, none⟩) (bs.length + m) cap) (w.setRow g (cur.toList.take bs.length ++ byteCells nb ++ cur.toList.drop (bs.length + m)).toArray) := by
        simp only [Nat.add_zero, hs1, Nat.mul_one, byteCells_length, hm] at hst
        simp [Builtin.append_, run_underlying ht, sizeOf, typeInfo, hi, hs1, Builtin.lenOf, hroom, Addr.add_lit, hst]
        rw [hs1] at hf
        simp [hf, hst]
      refine ⟨_, _, hr, .inr ⟨g, cap, _, fz, by rw [List.length_append, hm], hbg, setRow_heap w g cur _ _ _ hg, hfz, by rw [List.length_append]; omega, hcm, ?_, ?_⟩, ⟨rfl, rfl, rfl, by simp, fun k _ hk => setRow_other w g k _ (fun e => hk (by simp [Value.ownBlock, e]))⟩, .inl rfl⟩
      · simp only [List.size_toArray, List.length_append, List.length_take, List.length_drop, Array.length_toList, byteCells_length]
        omega
      · rw [htk, ← byteCells_append]
        exact take_app _ _
    · have holds : ∀ j u, (byteCells bs)[j]? = some u → w.cell? ((⟨g, 0, none⟩ : Addr).add j) = some u := by
        intro j u hu
        have hadd : (⟨g, 0, none⟩ : Addr).add j = ⟨g, j, none⟩ := by unfold Addr.add; split <;> simp_all
        rw [hadd, cell_of_row w g j cur _ fz hg, ← Array.getElem?_toList]
        rw [← htk, List.getElem?_take] at hu
        split at hu
        · exact hu
        · cases hu
      have hr := run_append_grow (P := Tryd.prog) w 38 ty 5 i (.int .u8 0) ht hi hz ⟨g, 0, none⟩ bs.length cap (byteCells bs) (by rw [hs1, byteCells_length]; omega) holds a m c (byteCells nb) hnl hnews (by omega) (by simp only [maxLen] at h63; omega) (growslice_fits (by omega) (by rw [hb1]; omega))
      refine ⟨_, _, hr, OwnB.new w base (bs ++ nb) (bs.length + m) cap (by rw [List.length_append, hm]) (by omega) hbase _ ?_, ⟨rfl, rfl, rfl, by simp, fun k hk _ => Below.heap_alloc w.drew _ k hk⟩, .inr rfl⟩
      rw [byteCells_append]
      simp
/-- append(b, s...): the bytes of a string. -/
theorem run_app_str (w : World) (ty : TypeId) (base : Nat) (v : Value) (bs : List UInt8) (hown : OwnB w base v bs) (s : ByteArray) (h47 : bs.length + s.size ≤ 140737488355328) (hbase : base ≤ w.heap.size) :
    ∃ v' w', (Builtin.append_ #[38, 9] ty #[v, .string s]).run Tryd.prog w = .ok v' w' ∧ OwnB w' base v' (bs ++ s.data.toList) ∧ w.grownBy w' v.ownBlock ∧ (v'.ownBlock = v.ownBlock ∨ v'.ownBlock = some w.heap.size) := by
  obtain ⟨i, hi, hz, hs1, hb1⟩ := info_parts byteInfo
  have ht := Tryd.underlying38
  have hu := Tryd.underlying9
  have h63 : bs.length + s.size ≤ maxLen := by simp only [maxLen]; omega
  have hsl : s.data.toList.length = s.size := by simp
  have hone : ∀ u ∈ byteCells s.data.toList, u.oneCell' = true := bytes_one _
  have hf := run_firstCells_string (P := Tryd.prog) w 1 s
  rcases hown with ⟨rfl, rfl⟩ | ⟨g, cap, cur, fz, rfl, hbg, hg, hfz, hnc, hcm, hcs, htk⟩
  · by_cases h0 : s.size = 0
    · have hnil : s.data.toList = [] := List.eq_nil_of_length_eq_zero (by rw [hsl]; exact h0)
      refine ⟨.slice none 0 0, w, ?_, .inl ⟨rfl, by rw [hnil]; rfl⟩, World.grownBy.refl w _, .inl rfl⟩
      simp [Builtin.append_, run_underlying ht, run_underlying hu, sizeOf, typeInfo, hi, hs1, Builtin.lenOf, h0]
      rw [h0] at hf
      simp [hf]
    · have hr := run_append_nil_string (P := Tryd.prog) w 38 9 ty 5 i (.int .u8 0) ht hu hi hz s (by omega) (by simp only [maxLen] at h63; omega) (by rw [hb1]; omega)
      exact ⟨_, _, hr, OwnB.new w base s.data.toList s.size 0 hsl.symm (by omega) hbase _ (by apply Array.ext'; simp [byteCells]), ⟨rfl, rfl, rfl, by simp, fun k hk _ => Below.heap_alloc w.drew _ k hk⟩, .inr rfl⟩
  · by_cases hroom : bs.length + s.size ≤ cap
    · have hst := run_storeCells_T Tryd.prog g bs.length 5 fz (byteCells s.data.toList) 0 cur w hg (by rw [hcs]; exact hfz) (by rw [byteCells_length, hsl, hcs]; omega) hone
      have hr : (Builtin.append_ #[38, 9] ty #[.slice (some ⟨g, 0, none⟩) bs.length cap, .string s]).run Tryd.prog w =
          .ok (.slice (some ⟨g, 0, none⟩) (bs.length + s.size) cap) (w.setRow g (cur.toList.take bs.length ++ byteCells s.data.toList ++ cur.toList.drop (bs.length + s.size)).toArray) := by
        simp only [Nat.add_zero, byteCells_length, hsl] at hst
        have hst' : Sem.run Tryd.prog (storeCells ⟨g, bs.length, none⟩ (strCells s) 0) w = _ := hst
        simp [Builtin.append_, run_underlying ht, run_underlying hu, sizeOf, typeInfo, hi, hs1, Builtin.lenOf, hroom, hf, Addr.add_lit, hst']
      refine ⟨_, _, hr, .inr ⟨g, cap, _, fz, by rw [List.length_append, hsl], hbg, setRow_heap w g cur _ _ _ hg, hfz, by rw [List.length_append, hsl]; omega, hcm, ?_, ?_⟩, ⟨rfl, rfl, rfl, by simp, fun k _ hk => setRow_other w g k _ (fun e => hk (by simp [Value.ownBlock, e]))⟩, .inl rfl⟩
      · simp only [List.size_toArray, List.length_append, List.length_take, List.length_drop, Array.length_toList, byteCells_length, hsl]
        omega
      · rw [htk, ← byteCells_append]
        exact take_app _ _
    · have holds : ∀ j u, (byteCells bs)[j]? = some u → w.cell? ((⟨g, 0, none⟩ : Addr).add j) = some u := by
        intro j u hu
        have hadd : (⟨g, 0, none⟩ : Addr).add j = ⟨g, j, none⟩ := by unfold Addr.add; split <;> simp_all
        rw [hadd, cell_of_row w g j cur _ fz hg, ← Array.getElem?_toList]
        rw [← htk, List.getElem?_take] at hu
        split at hu
        · exact hu
        · cases hu
      have hr := run_append_grow_string (P := Tryd.prog) w 38 9 ty 5 i (.int .u8 0) ht hu hi hz ⟨g, 0, none⟩ bs.length cap (byteCells bs) (by rw [hs1, byteCells_length]; omega) holds s (by omega) (by simp only [maxLen] at h63; omega) (by rw [hb1]; exact growslice_fits (by omega) (by omega))
      refine ⟨_, _, hr, OwnB.new w base (bs ++ s.data.toList) (bs.length + s.size) cap (by rw [List.length_append, hsl]) (by omega) hbase _ ?_, ⟨rfl, rfl, rfl, by simp, fun k hk _ => Below.heap_alloc w.drew _ k hk⟩, .inr rfl⟩
      rw [byteCells_append]
      simp [strCells_eq]
/-- append(b, x...) in the walk. -/
theorem wpList_app_cells {ops : Array Oper} {rest : List Oper} {o : Oper} {a : Act} {Q : Exit → Act → World → Prop} (w : World) (hgd : o.guard = none) (s x : Operand)
    (ho : o.op = .call { callee := .builtin .append, args := #[s, x], argTypes := #[38, 38] })
    {base : Nat} {v : Value} {bs : List UInt8} (hown : OwnB w base v bs) (hs : a.eval s = v) (ad : Addr) (m c : Nat) (nb : List UInt8) (hx : a.eval x = .slice (some ad) m c) (hm : nb.length = m)
    (hnews : ∀ j u, (byteCells nb)[j]? = some u → w.cell? (ad.add j) = some u) (h47 : bs.length + m ≤ 140737488355328) (hbase : base ≤ w.heap.size)
    (h : ∀ v' w', OwnB w' base v' (bs ++ nb) → w.grownBy w' v.ownBlock → (v'.ownBlock = v.ownBlock ∨ v'.ownBlock = some w.heap.size) → wpList Tryd.prog ops Q rest (a.put o.dst v') w') : wpList Tryd.prog ops Q (o :: rest) a w := by
  refine wpList_plain hgd fun _ hK => ?_
  obtain ⟨v', w', hr, h2, h3, h4⟩ := run_app_cells w o.type base v bs hown ad m c nb hm hnews h47 hbase
  unfold Oper.wp execOp
  simp only [ho, resolve, invoke, builtin, Sem.run_bind, Sem.run_pure, Result.andThen_ok, List.map_toArray, List.map_cons, List.map_nil, hs, hx, hr]
  exact hK _ _ (h v' w' h2 h3 h4)
/-- append(b, c), c one byte in a new block of one cell. -/
theorem wpList_app1 {ops : Array Oper} {rest : List Oper} {o : Oper} {a : Act} {Q : Exit → Act → World → Prop} (w : World) (hgd : o.guard = none) (s x : Operand)
    (ho : o.op = .call { callee := .builtin .append, args := #[s, x], argTypes := #[38, 38] })
    {base : Nat} {v : Value} {bs : List UInt8} (hown : OwnB w base v bs) (hs : a.eval s = v) {z : Int} (hx : a.eval x = .slice (some ⟨w.heap.size, 0, none⟩) 1 1) (h0 : 0 ≤ z) (h1 : z < 256)
    (h47 : bs.length + 1 ≤ 140737488355328) (hbase : base ≤ w.heap.size)
    (h : ∀ v' w', OwnB w' base v' (bs ++ [z.toNat.toUInt8]) → (w.alloc (.cells #[.int .u8 z] 5)).grownBy w' v.ownBlock → (v'.ownBlock = v.ownBlock ∨ v'.ownBlock = some (w.heap.size + 1)) → wpList Tryd.prog ops Q rest (a.put o.dst v') w') :
    wpList Tryd.prog ops Q (o :: rest) a (w.alloc (.cells #[.int .u8 z] 5)) := by
  refine wpList_app_cells _ hgd s x ho (hown.alloc _) hs ⟨w.heap.size, 0, none⟩ 1 1 [z.toNat.toUInt8] hx rfl ?_ h47 (by simp; omega) (fun v' w' a1 a2 a3 => h v' w' a1 a2 (by simpa using a3))
  have hz : ((z.toNat.toUInt8).toNat : Int) = z := by
    have e : (z.toNat.toUInt8).toNat = z.toNat % 256 := UInt8.toNat_ofNat' ..
    rw [e]; omega
  have hc : byteCells [z.toNat.toUInt8] = [.int .u8 z] := by simp only [byteCells, List.map_cons, List.map_nil, hz]
  rw [hc]
  exact cell_one_new _ _ _
/-- append(b, s...) in the walk. -/
theorem wpList_app_str {ops : Array Oper} {rest : List Oper} {o : Oper} {a : Act} {Q : Exit → Act → World → Prop} (w : World) (hgd : o.guard = none) (s x : Operand)
    (ho : o.op = .call { callee := .builtin .append, args := #[s, x], argTypes := #[38, 9] })
    {base : Nat} {v : Value} {bs : List UInt8} (hown : OwnB w base v bs) (hs : a.eval s = v) (st : ByteArray) (hx : a.eval x = .string st) (h47 : bs.length + st.size ≤ 140737488355328) (hbase : base ≤ w.heap.size)
    (h : ∀ v' w', OwnB w' base v' (bs ++ st.data.toList) → w.grownBy w' v.ownBlock → (v'.ownBlock = v.ownBlock ∨ v'.ownBlock = some w.heap.size) → wpList Tryd.prog ops Q rest (a.put o.dst v') w') : wpList Tryd.prog ops Q (o :: rest) a w := by
  refine wpList_plain hgd fun _ hK => ?_
  obtain ⟨v', w', hr, h2, h3, h4⟩ := run_app_str w o.type base v bs hown st h47 hbase
  unfold Oper.wp execOp
  simp only [ho, resolve, invoke, builtin, Sem.run_bind, Sem.run_pure, Result.andThen_ok, List.map_toArray, List.map_cons, List.map_nil, hs, hx, hr]
  exact hK _ _ (h v' w' h2 h3 h4)
/-- string(b). -/
theorem conv_own {w : World} {base : Nat} {v : Value} {bs : List UInt8} (h : OwnB w base v bs) : (convert 38 9 v).run Tryd.prog w = .ok (.string ⟨bs.toArray⟩) w := by
  have hc := fun g hg j hj => h.cells (g := g) hg j hj
  rcases h.form with ⟨rfl, rfl⟩ | ⟨g, cap, rfl, _, _, _⟩
  · exact run_convert_bytes_nil w 38 5 Tryd.underlying38 Tryd.underlying5 0 0 _ Tryd.underlying9
  · exact Go.run_convert_bytes_back w 38 9 5 ⟨g, 0, none⟩ cap bs Tryd.underlying38 Tryd.underlying5 Tryd.underlying9 (fun j hj => by
      have hadd : (⟨g, 0, none⟩ : Addr).add j = ⟨g, j, none⟩ := by unfold Addr.add; split <;> simp_all
      rw [hadd]
      exact hc g rfl j hj)
/-- []byte(s): a new row. -/
theorem run_bytesOf (w : World) (s : ByteArray) (hs : s.size ≤ maxLen) : ∃ v' w', (convert 9 38 (.string s)).run Tryd.prog w = .ok v' w' ∧ OwnB w' w.heap.size v' s.data.toList ∧ Below w.heap.size w w' ∧ v'.ownBlock = some w.heap.size := by
  have hr := Lib.run_convert_string_bytes (P := Tryd.prog) w 9 38 5 s Tryd.underlying9 Tryd.underlying38 Tryd.underlying5
  have hge := grownCap_ge w s.size 0 5
  have hsz : (bytesCells w 5 s).size = grownCap w s.size 0 5 := by
    simp only [bytesCells, Array.size_append, Array.size_map, Array.size_replicate]
    have : s.data.size = s.size := rfl
    omega
  have hsl : s.data.toList.length = s.size := by simp
  refine ⟨_, _, hr, .inr ⟨w.heap.size, grownCap w s.size 0 5, _, _, by rw [hsl], Nat.le_refl _, bytesWorld_at_new w 5 s, .inr (by rw [hsz]; exact Nat.le_refl _), by rw [hsl]; exact hge, grownCap_le_maxLen w _ _ _ hs, hsz, ?_⟩, ⟨?_, ?_, ?_, by rw [bytesWorld_size]; omega, fun k hk => bytesWorld_at_old w _ s k hk⟩, rfl⟩
  · simp only [bytesCells, Array.toList_append, Array.toList_map]
    exact take_app _ _
  · simp only [bytesWorld, World.freeze]; rfl
  · simp only [bytesWorld, World.freeze]; rfl
  · simp only [bytesWorld, World.freeze]; rfl
theorem wpList_bytesOf {ops : Array Oper} {rest : List Oper} {o : Oper} {a : Act} {Q : Exit → Act → World → Prop} (w : World) (hgd : o.guard = none) (x : Operand) (ho : o.op = .convert 9 38 x)
    (s : ByteArray) (hx : a.eval x = .string s) (hs : s.size ≤ maxLen)
    (h : ∀ v' w', OwnB w' w.heap.size v' s.data.toList → Below w.heap.size w w' → v'.ownBlock = some w.heap.size → wpList Tryd.prog ops Q rest (a.put o.dst v') w') : wpList Tryd.prog ops Q (o :: rest) a w := by
  refine wpList_plain hgd fun _ hK => ?_
  obtain ⟨v', w', hr, h2, h3, h4⟩ := run_bytesOf w s hs
  unfold Oper.wp execOp
  simp only [ho, hx, hr, Sem.run_bind, Sem.run_pure, Result.andThen_ok]
  exact hK _ _ (h v' w' h2 h3 h4)
/-- What an append leaves below the row. -/
theorem below_app {B : Nat} {w0 w w' : World} {v : Value} (h : Below B w0 w) (hg : w.grownBy w' v.ownBlock) (hB : B ≤ w.heap.size) (hv : ∀ k, v.ownBlock = some k → B ≤ k) : Below B w0 w' := h.grown hg hB hv
end Go.Proofs.YtphjpdnheaeghaaDoor

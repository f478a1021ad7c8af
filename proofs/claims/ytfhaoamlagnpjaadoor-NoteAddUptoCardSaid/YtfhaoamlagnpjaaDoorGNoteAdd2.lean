/-
  Several texts in one: WORDS on slices of bytes that the call itself owns: what they hold, append, conversions there and back. | CONTRACTS of package text and of the document's answer for it: a number in decimal digits. | WORDS: copy from a string into an array of bytes. | THE PLAIN LAW of numbers read back: whoever reads the digits of a number finds it, the program's way and the document's.
-/
import Derived.Test.YtfhaoamlagnpjaaDoorRows
import Derived.Lib.FrozenHead2
import Derived.Lib.ConvBytes
import Derived.Lib.AppendStr
import Derived.Laws.IdiomStrings
import Derived.StillTailTactics
import Derived.Deep.RegionHeld3
import Derived.Test.YtfhaoamlagnpjaaDoorGNoteAdd1
set_option linter.unusedVariables false
set_option linter.unusedSimpArgs false
namespace Go.Proofs.YtfhaoamlagnpjaaDoor
open Go.RowKit Go.Lib
/-- The slice v of bytes owns a row from block 'base' on and holds the bytes bs; nothing of its places is frozen. -/
def OwnB (w : World) (base : Nat) (v : Value) (bs : List UInt8) : Prop :=
  (v = .slice none 0 0 ∧ bs = []) ∨
  ∃ g cap cur fz, v = .slice (some ⟨g, 0, none⟩) bs.length cap ∧ base ≤ g ∧ w.heap[g]? = some (.cells cur 5 fz) ∧ (fz.2 = 0 ∨ cap ≤ fz.1) ∧ bs.length ≤ cap ∧ cap ≤ maxLen ∧ cur.size = cap ∧ cur.toList.take bs.length = byteCells bs
theorem OwnB.nil (w : World) (base : Nat) : OwnB w base (.slice none 0 0) [] := .inl ⟨rfl, rfl⟩
theorem OwnB.of_row {w : World} {base : Nat} {v : Value} {bs : List UInt8} (h : w.ownsRow base 5 1 v bs.length (byteCells bs)) : OwnB w base v bs := by
  rcases h.2 with ⟨rfl, hn⟩ | ⟨g, cap, cur, rfl, hb, hg, hnc, hcm, hcs, htk⟩
  · exact .inl ⟨rfl, List.eq_nil_of_length_eq_zero hn⟩
  · exact .inr ⟨g, cap, cur, (0, 0), rfl, hb, hg, .inl rfl, hnc, hcm, by simpa using hcs, by simpa using htk⟩
theorem OwnB.lt {w : World} {base : Nat} {v : Value} {bs : List UInt8} (h : OwnB w base v bs) : ∀ k, v.ownBlock = some k → base ≤ k ∧ k < w.heap.size := by
  intro k hk
  rcases h with ⟨rfl, _⟩ | ⟨g, cap, cur, fz, rfl, hb, hg, _⟩
  · simp [Value.ownBlock] at hk
  · simp [Value.ownBlock] at hk
    subst hk
    exact ⟨hb, (Array.getElem?_eq_some_iff.1 hg).1⟩
theorem OwnB.kept {w w' : World} {base : Nat} {v : Value} {bs : List UInt8} {row : Option Nat} (h : OwnB w base v bs) (hg : w.grownBy w' row) (hne : v.ownBlock = none ∨ v.ownBlock ≠ row) : OwnB w' base v bs := by
  rcases h with hn | ⟨g, cap, cur, fz, rfl, hb, hgg, rest⟩
  · exact .inl hn
  · refine .inr ⟨g, cap, cur, fz, rfl, hb, ?_, rest⟩
    rw [hg.block g (Array.getElem?_eq_some_iff.1 hgg).1 (by simpa [Value.ownBlock] using hne)]
    exact hgg
theorem OwnB.alloc {w : World} {base : Nat} {v : Value} {bs : List UInt8} (h : OwnB w base v bs) (o : Obj) : OwnB (w.alloc o) base v bs :=
  h.kept (World.grownBy_alloc w o none) (by cases hv : v.ownBlock <;> simp)
theorem OwnB.drew {w : World} {base : Nat} {v : Value} {bs : List UInt8} (h : OwnB w base v bs) : OwnB w.drew base v bs := h
theorem OwnB.drewN {w : World} {base : Nat} {v : Value} {bs : List UInt8} (h : OwnB w base v bs) (n : Nat) : OwnB (w.drewN n) base v bs := h
theorem OwnB.below {w w' : World} {base : Nat} {v : Value} {bs : List UInt8} (h : OwnB w base v bs) (hb : Below w.heap.size w w') : OwnB w' base v bs :=
  h.kept (only_of_below hb none) (by cases hv : v.ownBlock <;> simp)
theorem OwnB.mono {w : World} {base base' : Nat} {v : Value} {bs : List UInt8} (h : OwnB w base v bs) (hb : base' ≤ base) : OwnB w base' v bs := by
  rcases h with hn | ⟨g, cap, cur, fz, rfl, hb', rest⟩
  · exact .inl hn
  · exact .inr ⟨g, cap, cur, fz, rfl, by omega, rest⟩
theorem OwnB.setCell {w : World} {base : Nat} {v : Value} {bs : List UInt8} (h : OwnB w base v bs) {p : Addr} (hp : v.ownBlock ≠ some p.block) (u : Value) : OwnB (w.setCell p u) base v bs := by
  rcases h with hn | ⟨g, cap, cur, fz, rfl, hb, hgg, rest⟩
  · exact .inl hn
  · refine .inr ⟨g, cap, cur, fz, rfl, hb, ?_, rest⟩
    rw [Below.heap_setCell _ _ _ _ (fun e => hp (by simp [Value.ownBlock, e]))]
    exact hgg
theorem OwnB.cells {w : World} {base : Nat} {v : Value} {bs : List UInt8} (h : OwnB w base v bs) {g : Nat} (hg : v.ownBlock = some g) (j : Nat) (hj : j < bs.length) : w.cell? ⟨g, j, none⟩ = some (.int .u8 (bs[j].toNat : Int)) := by
  rcases h with ⟨rfl, _⟩ | ⟨g', cap, cur, fz, rfl, _, hgg, _, hl, _, hcs, htk⟩
  · simp [Value.ownBlock] at hg
  · simp [Value.ownBlock] at hg
    subst hg
    rw [cell_of_row w g' j cur _ fz hgg]
    have e : (cur.toList.take bs.length)[j]? = (byteCells bs)[j]? := by rw [htk]
    rw [List.getElem?_take, if_pos hj] at e
    simpa [byteCells, hj] using e
/-- Its form: nil and empty, or at the head of a row. -/
theorem OwnB.form {w : World} {base : Nat} {v : Value} {bs : List UInt8} (h : OwnB w base v bs) : (v = .slice none 0 0 ∧ bs = []) ∨ ∃ g cap, v = .slice (some ⟨g, 0, none⟩) bs.length cap ∧ base ≤ g ∧ g < w.heap.size ∧ cap ≤ maxLen := by
  rcases h with h | ⟨g, cap, cur, fz, rfl, hb, hgg, _, _, hcm, _⟩
  · exact .inl h
  · exact .inr ⟨g, cap, rfl, hb, (Array.getElem?_eq_some_iff.1 hgg).1, hcm⟩
theorem run_storeCells_T (P : Program) (g o : Nat) (t : TypeId) (fz : Nat × Nat) : ∀ (vs : List Value) (i : Nat) (cur : Array Value) (w : World), w.heap[g]? = some (.cells cur t fz) → (fz.2 = 0 ∨ cur.size ≤ fz.1) → o + i + vs.length ≤ cur.size → (∀ v ∈ vs, v.oneCell' = true) →
    (storeCells ⟨g, o, none⟩ vs i).run P w = .ok () (w.setRow g (cur.toList.take (o + i) ++ vs ++ cur.toList.drop (o + i + vs.length)).toArray)
  | [], i, cur, w, hg, _, _, _ => by
    simp only [storeCells, List.append_nil, List.length_nil, Nat.add_zero, List.take_append_drop, Array.toArray_toList]
    rw [setRow_self w g cur t fz hg]
    rfl
  | v :: rest, i, cur, w, hg, hfz, hl, h1 => by
    have hi : o + i < cur.size := by simp at hl; omega
    have hadd : (⟨g, o, none⟩ : Addr).add i = ⟨g, o + i, none⟩ := by unfold Addr.add; split <;> simp_all
    have hcell : w.cell? ⟨g, o + i, none⟩ = some cur[o + i] := by simp [World.cell?, hg, hi]
    have hfro : w.frozen? ⟨g, o + i, none⟩ = false := by
      obtain ⟨lo, hi'⟩ := fz
      simp only [World.frozen?, hg, Bool.and_eq_false_iff, decide_eq_false_iff_not]
      simp only at hfz
      omega
    have hst : (store ((⟨g, o, none⟩ : Addr).add i) v).run P w = .ok () (w.setRow g (cur.setIfInBounds (o + i) v)) := by
      rw [hadd, run_store P w _ v _ (h1 v (by simp)), hcell]
      simp [hfro, setCell_eq_setRow w g (o + i) cur t fz v hg]
    have ih := run_storeCells_T P g o t fz rest (i + 1) (cur.setIfInBounds (o + i) v) (w.setRow g (cur.setIfInBounds (o + i) v)) (setRow_heap w g cur _ t _ hg) (by simpa using hfz) (by simp at hl ⊢; omega) (fun x hx => h1 x (by simp [hx]))
    simp only [storeCells, Sem.run_bind, hst, Result.andThen_ok, ih, setRow_setRow]
    congr 3
    have e := list_seg_step cur.toList (o + i) v rest (by simp at hl ⊢; omega)
    simpa [Array.toList_setIfInBounds, Nat.add_assoc] using e
theorem bytes_one (l : List UInt8) : ∀ u ∈ byteCells l, u.oneCell' = true := by
  intro u hu
  obtain ⟨_, _, rfl⟩ := List.mem_map.1 hu
  rfl
theorem byteInfo : (Tryd.prog.info? 5).map (fun i => (i.zero, i.size, i.bytes)) = some (some (.int .u8 0), 1, 1) := by kernel_rfl
theorem take_app (l : List UInt8) (r : List Value) : (byteCells l ++ r).take l.length = byteCells l := by
  rw [List.take_append_of_le_length (by simp [byteCells]), List.take_of_length_le (by simp [byteCells])]
/-- A new row behind an append. -/
theorem OwnB.new (w : World) (base : Nat) (bs : List UInt8) (need old : Nat) (hn : need = bs.length) (h63 : need ≤ maxLen) (hbase : base ≤ w.heap.size) (C : Array Value) (hC : C = (byteCells bs).toArray ++ Builtin.zeroCells (Value.int .u8 0).cells (grownCap w need old 5 - need)) :
    OwnB (w.drew.alloc (.cells C 5)) base (.slice (some ⟨w.heap.size, 0, none⟩) need (grownCap w need old 5)) bs := by
  subst hn hC
  have hge := grownCap_ge w bs.length old 5
  refine .inr ⟨w.heap.size, _, _, (0, 0), rfl, hbase, heap_alloc_new w.drew _, .inl rfl, hge, grownCap_le_maxLen w _ old _ h63, ?_, ?_⟩
  · have hz1 : (Value.int IntKind.u8 0).cells.size = 1 := rfl
    simp only [Array.size_append, List.size_toArray, size_zeroCells, hz1, byteCells_length]
    omega
  · simp only [Array.toList_append]
    exact take_app _ _
/-- append(b, x...): bytes out of memory. -/
theorem run_app_cells (w : World) (ty : TypeId) (base : Nat) (v : Value) (bs : List UInt8) (hown : OwnB w base v bs) (a : Addr) (m c : Nat) (nb : List UInt8) (hm : nb.length = m)
    (hnews : ∀ j u, (byteCells nb)[j]? = some u → w.cell? (a.add j) = some u) (h47 : bs.length + m ≤ 140737488355328) (hbase : base ≤ w.heap.size) :
    ∃ v' w', (Builtin.append_ #[75, 75] ty #[v, .slice (some a) m c]).run Tryd.prog w = .ok v' w' ∧ OwnB w' base v' (bs ++ nb) ∧ w.grownBy w' v.ownBlock ∧ (v'.ownBlock = v.ownBlock ∨ v'.ownBlock = some w.heap.size) := by
  obtain ⟨i, hi, hz, hs1, hb1⟩ := info_parts byteInfo
  have ht := Tryd.underlying75
  have h63 : bs.length + m ≤ maxLen := by simp only [maxLen]; omega
  have hnl : (byteCells nb).length = m * i.size := by rw [hs1, byteCells_length]; omega
  have hone : ∀ u ∈ byteCells nb, u.oneCell' = true := bytes_one nb
  rcases hown with ⟨rfl, rfl⟩ | ⟨g, cap, cur, fz, rfl, hbg, hg, hfz, hnc, hcm, hcs, htk⟩
  · by_cases h0 : m = 0
    · subst h0
      obtain rfl := List.eq_nil_of_length_eq_zero hm
      refine ⟨.slice none 0 0, w, ?_, .inl ⟨rfl, rfl⟩, World.grownBy.refl w _, .inl rfl⟩
      simp [Builtin.append_, run_underlying ht, sizeOf, typeInfo, hi, hs1, Builtin.lenOf, Builtin.firstCells, loadCells, loadCellsFrom]
    · have hr := run_append_nil (P := Tryd.prog) w 75 ty 5 i (.int .u8 0) ht hi hz a m c (byteCells nb) hnl hnews (by omega) (by simp only [maxLen] at h63; omega) (by rw [hb1]; omega)
      exact ⟨_, _, hr, OwnB.new w base nb m 0 hm.symm (by omega) hbase _ rfl, ⟨rfl, rfl, rfl, by simp, fun k hk _ => Below.heap_alloc w.drew _ k hk⟩, .inr rfl⟩
  · by_cases hroom : bs.length + m ≤ cap
    · have hf := run_firstCells_some (P := Tryd.prog) w i.size m a m c (byteCells nb) hnl hnews
      have hst := run_storeCells_T Tryd.prog g (bs.length * i.size) 5 fz (byteCells nb) 0 cur w hg (by rw [hcs]; exact hfz) (by rw [hs1, byteCells_length, hcs]; omega) hone
      have hr : (Builtin.append_ #[75, 75] ty #[.slice (some ⟨g, 0, none⟩) bs.length cap, .slice (some a) m c]).run Tryd.prog w =
          .ok (.slice (some ⟨g, 0, none⟩) (bs.length + m) cap) (w.setRow g (cur.toList.take bs.length ++ byteCells nb ++ cur.toList.drop (bs.length + m)).toArray) := by
        simp only [Nat.add_zero, hs1, Nat.mul_one, byteCells_length, hm] at hst
        simp [Builtin.append_, run_underlying ht, sizeOf, typeInfo, hi, hs1, Builtin.lenOf, hroom, Addr.add_lit, hst]
        rw [hs1] at hf
        simp [hf, hst]
      refine ⟨_, _, hr, .inr ⟨g, cap, _, fz, by rw [List.length_append, hm], hbg, setRow_heap w g cur _ _ _ hg, hfz, by rw [List.length_append]; omega, hcm, ?_, ?_⟩, ⟨rfl, rfl, rfl, by simp, fun k _ hk => setRow_other w g k _ (fun e => hk (by simp [Value.ownBlock, e]))⟩, .inl rfl⟩
      · simp only [List.size_toArray, List.length_append, List.length_take, List.length_drop, Array.length_toList, byteCells_length]
        omega
      · rw [htk, ← byteCells_append]
        exact take_app _ _
    · have holds : ∀ j u, (byteCells bs)[j]? = some u → w.cell? ((⟨g, 0, none⟩ : Addr).add j) = some u := by
        intro j u hu
        have hadd : (⟨g, 0, none⟩ : Addr).add j = ⟨g, j, none⟩ := by unfold Addr.add; split <;> simp_all
        rw [hadd, cell_of_row w g j cur _ fz hg, ← Array.getElem?_toList]
        rw [← htk, List.getElem?_take] at hu
        split at hu
        · exact hu
        · cases hu
      have hr := run_append_grow (P := Tryd.prog) w 75 ty 5 i (.int .u8 0) ht hi hz ⟨g, 0, none⟩ bs.length cap (byteCells bs) (by rw [hs1, byteCells_length]; omega) holds a m c (byteCells nb) hnl hnews (by omega) (by simp only [maxLen] at h63; omega) (growslice_fits (by omega) (by rw [hb1]; omega))
      refine ⟨_, _, hr, OwnB.new w base (bs ++ nb) (bs.length + m) cap (by rw [List.length_append, hm]) (by omega) hbase _ ?_, ⟨rfl, rfl, rfl, by simp, fun k hk _ => Below.heap_alloc w.drew _ k hk⟩, .inr rfl⟩
      rw [byteCells_append]
      simp
/-- append(b, s...): the bytes of a string. -/
theorem run_app_str (w : World) (ty : TypeId) (base : Nat) (v : Value) (bs : List UInt8) (hown : OwnB w base v bs) (s : ByteArray) (h47 : bs.length + s.size ≤ 140737488355328) (hbase : base ≤ w.heap.size) :
    ∃ v' w', (Builtin.append_ #[75, 9] ty #[v, .string s]).run Tryd.prog w = .ok v' w' ∧ OwnB w' base v' (bs ++ s.data.toList) ∧ w.grownBy w' v.ownBlock ∧ (v'.ownBlock = v.ownBlock ∨ v'.ownBlock = some w.heap.size) := by
  obtain ⟨i, hi, hz, hs1, hb1⟩ := info_parts byteInfo
  have ht := Tryd.underlying75
  have hu := Tryd.underlying9
  have h63 : bs.length + s.size ≤ maxLen := by simp only [maxLen]; omega
  have hsl : s.data.toList.length = s.size := by simp
  have hone : ∀ u ∈ byteCells s.data.toList, u.oneCell' = true := bytes_one _
  have hf := run_firstCells_string (P := Tryd.prog) w 1 s
  rcases hown with ⟨rfl, rfl⟩ | ⟨g, cap, cur, fz, rfl, hbg, hg, hfz, hnc, hcm, hcs, htk⟩
  · by_cases h0 : s.size = 0
    · have hnil : s.data.toList = [] := List.eq_nil_of_length_eq_zero (by rw [hsl]; exact h0)
      refine ⟨.slice none 0 0, w, ?_, .inl ⟨rfl, by rw [hnil]; rfl⟩, World.grownBy.refl w _, .inl rfl⟩
      simp [Builtin.append_, run_underlying ht, run_underlying hu, sizeOf, typeInfo, hi, hs1, Builtin.lenOf, h0]
      rw [h0] at hf
      simp [hf]
    · have hr := run_append_nil_string (P := Tryd.prog) w 75 9 ty 5 i (.int .u8 0) ht hu hi hz s (by omega) (by simp only [maxLen] at h63; omega) (by rw [hb1]; omega)
      exact ⟨_, _, hr, OwnB.new w base s.data.toList s.size 0 hsl.symm (by omega) hbase _ (by apply Array.ext'; simp [byteCells]), ⟨rfl, rfl, rfl, by simp, fun k hk _ => Below.heap_alloc w.drew _ k hk⟩, .inr rfl⟩
  · by_cases hroom : bs.length + s.size ≤ cap
    · have hst := run_storeCells_T Tryd.prog g bs.length 5 fz (byteCells s.data.toList) 0 cur w hg (by rw [hcs]; exact hfz) (by rw [byteCells_length, hsl, hcs]; omega) hone
      have hr : (Builtin.append_ #[75, 9] ty #[.slice (some ⟨g, 0, none⟩) bs.length cap, .string s]).run Tryd.prog w =
          .ok (.slice (some ⟨g, 0, none⟩) (bs.length + s.size) cap) (w.setRow g (cur.toList.take bs.length ++ byteCells s.data.toList ++ cur.toList.drop (bs.length + s.size)).toArray) := by
        simp only [Nat.add_zero, byteCells_length, hsl] at hst
        have hst' : Sem.run Tryd.prog (storeCells ⟨g, bs.length, none⟩ (strCells s) 0) w = _ := hst
        simp [Builtin.append_, run_underlying ht, run_underlying hu, sizeOf, typeInfo, hi, hs1, Builtin.lenOf, hroom, hf, Addr.add_lit, hst']
      refine ⟨_, _, hr, .inr ⟨g, cap, _, fz, by rw [List.length_append, hsl], hbg, setRow_heap w g cur _ _ _ hg, hfz, by rw [List.length_append, hsl]; omega, hcm, ?_, ?_⟩, ⟨rfl, rfl, rfl, by simp, fun k _ hk => setRow_other w g k _ (fun e => hk (by simp [Value.ownBlock, e]))⟩, .inl rfl⟩
      · simp only [List.size_toArray, List.length_append, List.length_take, List.length_drop, Array.length_toList, byteCells_length, hsl]
        omega
      · rw [htk, ← byteCells_append]
        exact take_app _ _
    · have holds : ∀ j u, (byteCells bs)[j]? = some u → w.cell? ((⟨g, 0, none⟩ : Addr).add j) = some u := by
        intro j u hu
        have hadd : (⟨g, 0, none⟩ : Addr).add j = ⟨g, j, none⟩ := by unfold Addr.add; split <;> simp_all
        rw [hadd, cell_of_row w g j cur _ fz hg, ← Array.getElem?_toList]
        rw [← htk, List.getElem?_take] at hu
        split at hu
        · exact hu
        · cases hu
      have hr := run_append_grow_string (P := Tryd.prog) w 75 9 ty 5 i (.int .u8 0) ht hu hi hz ⟨g, 0, none⟩ bs.length cap (byteCells bs) (by rw [hs1, byteCells_length]; omega) holds s (by omega) (by simp only [maxLen] at h63; omega) (by rw [hb1]; exact growslice_fits (by omega) (by omega))
      refine ⟨_, _, hr, OwnB.new w base (bs ++ s.data.toList) (bs.length + s.size) cap (by rw [List.length_append, hsl]) (by omega) hbase _ ?_, ⟨rfl, rfl, rfl, by simp, fun k hk _ => Below.heap_alloc w.drew _ k hk⟩, .inr rfl⟩
      rw [byteCells_append]
      simp [strCells_eq]
/-- append(b, x...) in the walk. -/
theorem wpList_app_cells {ops : Array Oper} {rest : List Oper} {o : Oper} {a : Act} {Q : Exit → Act → World → Prop} (w : World) (hgd : o.guard = none) (s x : Operand)
    (ho : o.op = .call { callee := .builtin .append, args := #[s, x], argTypes := #[75, 75] })
    {base : Nat} {v : Value} {bs : List UInt8} (hown : OwnB w base v bs) (hs : a.eval s = v) (ad : Addr) (m c : Nat) (nb : List UInt8) (hx : a.eval x = .slice (some ad) m c) (hm : nb.length = m)
    (hnews : ∀ j u, (byteCells nb)[j]? = some u → w.cell? (ad.add j) = some u) (h47 : bs.length + m ≤ 140737488355328) (hbase : base ≤ w.heap.size)
    (h : ∀ v' w', OwnB w' base v' (bs ++ nb) → w.grownBy w' v.ownBlock → (v'.ownBlock = v.ownBlock ∨ v'.ownBlock = some w.heap.size) → wpList Tryd.prog ops Q rest (a.put o.dst v') w') : wpList Tryd.prog ops Q (o :: rest) a w := by
  refine wpList_plain hgd fun _ hK => ?_
  obtain ⟨v', w', hr, h2, h3, h4⟩ := run_app_cells w o.type base v bs hown ad m c nb hm hnews h47 hbase
  unfold Oper.wp execOp
  simp only [ho, resolve, invoke, builtin, Sem.run_bind, Sem.run_pure, Result.andThen_ok, List.map_toArray, List.map_cons, List.map_nil, hs, hx, hr]
  exact hK _ _ (h v' w' h2 h3 h4)
/-- append(b, c), c one byte in a new block of one cell. -/
theorem wpList_app1 {ops : Array Oper} {rest : List Oper} {o : Oper} {a : Act} {Q : Exit → Act → World → Prop} (w : World) (hgd : o.guard = none) (s x : Operand)
    (ho : o.op = .call { callee := .builtin .append, args := #[s, x], argTypes := #[75, 75] })
    {base : Nat} {v : Value} {bs : List UInt8} (hown : OwnB w base v bs) (hs : a.eval s = v) {z : Int} (hx : a.eval x = .slice (some ⟨w.heap.size, 0, none⟩) 1 1) (h0 : 0 ≤ z) (h1 : z < 256)
    (h47 : bs.length + 1 ≤ 140737488355328) (hbase : base ≤ w.heap.size)
    (h : ∀ v' w', OwnB w' base v' (bs ++ [z.toNat.toUInt8]) → (w.alloc (.cells #[.int .u8 z] 5)).grownBy w' v.ownBlock → (v'.ownBlock = v.ownBlock ∨ v'.ownBlock = some (w.heap.size + 1)) → wpList Tryd.prog ops Q rest (a.put o.dst v') w') :
    wpList Tryd.prog ops Q (o :: rest) a (w.alloc (.cells #[.int .u8 z] 5)) := by
  refine wpList_app_cells _ hgd s x ho (hown.alloc _) hs ⟨w.heap.size, 0, none⟩ 1 1 [z.toNat.toUInt8] hx rfl ?_ h47 (by simp; omega) (fun v' w' a1 a2 a3 => h v' w' a1 a2 (by simpa using a3))
  have hz : ((z.toNat.toUInt8).toNat : Int) = z := by
    have e : (z.toNat.toUInt8).toNat = z.toNat % 256 := UInt8.toNat_ofNat' ..
    rw [e]; omega
  have hc : byteCells [z.toNat.toUInt8] = [.int .u8 z] := by simp only [byteCells, List.map_cons, List.map_nil, hz]
  rw [hc]
  exact cell_one_new _ _ _
/-- append(b, s...) in the walk. -/
theorem wpList_app_str {ops : Array Oper} {rest : List Oper} {o : Oper} {a : Act} {Q : Exit → Act → World → Prop} (w : World) (hgd : o.guard = none) (s x : Operand)
    (ho : o.op = .call { callee := .builtin .append, args := #[s, x], argTypes := #[75, 9] })
    {base : Nat} {v : Value} {bs : List UInt8} (hown : OwnB w base v bs) (hs : a.eval s = v) (st : ByteArray) (hx : a.eval x = .string st) (h47 : bs.length + st.size ≤ 140737488355328) (hbase : base ≤ w.heap.size)
    (h : ∀ v' w', OwnB w' base v' (bs ++ st.data.toList) → w.grownBy w' v.ownBlock → (v'.ownBlock = v.ownBlock ∨ v'.ownBlock = some w.heap.size) → wpList Tryd.prog ops Q rest (a.put o.dst v') w') : wpList Tryd.prog ops Q (o :: rest) a w := by
  refine wpList_plain hgd fun _ hK => ?_
  obtain ⟨v', w', hr, h2, h3, h4⟩ := run_app_str w o.type base v bs hown st h47 hbase
  unfold Oper.wp execOp
  simp only [ho, resolve, invoke, builtin, Sem.run_bind, Sem.run_pure, Result.andThen_ok, List.map_toArray, List.map_cons, List.map_nil, hs, hx, hr]
  exact hK _ _ (h v' w' h2 h3 h4)
/-- string(b). -/
theorem conv_own {w : World} {base : Nat} {v : Value} {bs : List UInt8} (h : OwnB w base v bs) : (convert 75 9 v).run Tryd.prog w = .ok (.string ⟨bs.toArray⟩) w := by
  have hc := fun g hg j hj => h.cells (g := g) hg j hj
  rcases h.form with ⟨rfl, rfl⟩ | ⟨g, cap, rfl, _, _, _⟩
  · exact run_convert_bytes_nil w 75 5 Tryd.underlying75 Tryd.underlying5 0 0 _ Tryd.underlying9
  · exact Go.run_convert_bytes_back w 75 9 5 ⟨g, 0, none⟩ cap bs Tryd.underlying75 Tryd.underlying5 Tryd.underlying9 (fun j hj => by
      have hadd : (⟨g, 0, none⟩ : Addr).add j = ⟨g, j, none⟩ := by unfold Addr.add; split <;> simp_all
      rw [hadd]
      exact hc g rfl j hj)
/-- []byte(s): a new row. -/
theorem run_bytesOf (w : World) (s : ByteArray) (hs : s.size ≤ maxLen) : ∃ v' w', (convert 9 75 (.string s)).run Tryd.prog w = .ok v' w' ∧ OwnB w' w.heap.size v' s.data.toList ∧ Below w.heap.size w w' ∧ v'.ownBlock = some w.heap.size := by
  have hr := Lib.run_convert_string_bytes (P := Tryd.prog) w 9 75 5 s Tryd.underlying9 Tryd.underlying75 Tryd.underlying5
  have hge := grownCap_ge w s.size 0 5
  have hsz : (bytesCells w 5 s).size = grownCap w s.size 0 5 := by
    simp only [bytesCells, Array.size_append, Array.size_map, Array.size_replicate]
    have : s.data.size = s.size := rfl
    omega
  have hsl : s.data.toList.length = s.size := by simp
  refine ⟨_, _, hr, .inr ⟨w.heap.size, grownCap w s.size 0 5, _, _, by rw [hsl], Nat.le_refl _, bytesWorld_at_new w 5 s, .inr (by rw [hsz]; exact Nat.le_refl _), by rw [hsl]; exact hge, grownCap_le_maxLen w _ _ _ hs, hsz, ?_⟩, ⟨?_, ?_, ?_, by rw [bytesWorld_size]; omega, fun k hk => bytesWorld_at_old w _ s k hk⟩, rfl⟩
  · simp only [bytesCells, Array.toList_append, Array.toList_map]
    exact take_app _ _
  · simp only [bytesWorld, World.freeze]; rfl
  · simp only [bytesWorld, World.freeze]; rfl
  · simp only [bytesWorld, World.freeze]; rfl
theorem wpList_bytesOf {ops : Array Oper} {rest : List Oper} {o : Oper} {a : Act} {Q : Exit → Act → World → Prop} (w : World) (hgd : o.guard = none) (x : Operand) (ho : o.op = .convert 9 75 x)
    (s : ByteArray) (hx : a.eval x = .string s) (hs : s.size ≤ maxLen)
    (h : ∀ v' w', OwnB w' w.heap.size v' s.data.toList → Below w.heap.size w w' → v'.ownBlock = some w.heap.size → wpList Tryd.prog ops Q rest (a.put o.dst v') w') : wpList Tryd.prog ops Q (o :: rest) a w := by
  refine wpList_plain hgd fun _ hK => ?_
  obtain ⟨v', w', hr, h2, h3, h4⟩ := run_bytesOf w s hs
  unfold Oper.wp execOp
  simp only [ho, hx, hr, Sem.run_bind, Sem.run_pure, Result.andThen_ok]
  exact hK _ _ (h v' w' h2 h3 h4)
/-- What an append leaves below the row. -/
theorem below_app {B : Nat} {w0 w w' : World} {v : Value} (h : Below B w0 w) (hg : w.grownBy w' v.ownBlock) (hB : B ≤ w.heap.size) (hv : ∀ k, v.ownBlock = some k → B ≤ k) : Below B w0 w' := h.grown hg hB hv
end Go.Proofs.YtfhaoamlagnpjaaDoor

set_option linter.unusedVariables false
set_option linter.unusedSimpArgs false
namespace Go.Proofs.YtfhaoamlagnpjaaDoor
open Go.RowKit Go.Lib
/-- Decimal digits. -/
def digL (n : Nat) : List UInt8 := if n < 10 then [(48 + n).toUInt8] else digL (n / 10) ++ [(48 + n % 10).toUInt8]
def decL (z : Int) : List UInt8 := if 0 ≤ z then digL z.toNat else 45 :: digL (-z).toNat
def decS (z : Int) : ByteArray := ⟨(decL z).toArray⟩
theorem digL_lt {n : Nat} (h : n < 10) : digL n = [(48 + n).toUInt8] := by rw [digL, if_pos h]
theorem digL_ge {n : Nat} (h : 10 ≤ n) : digL n = digL (n / 10) ++ [(48 + n % 10).toUInt8] := by rw [digL, if_neg (by omega)]
theorem digL_length : ∀ (k n : Nat), n < 10 ^ k → 0 < k → (digL n).length ≤ k
  | 0, n, h, h0 => by omega
  | 1, n, h, h0 => by rw [digL_lt (by simpa using h)]; simp
  | k + 2, n, h, h0 => by
    by_cases h1 : n < 10
    · rw [digL_lt h1]; simp
    · rw [digL_ge (by omega), List.length_append]
      have := digL_length (k + 1) (n / 10) (by rw [Nat.pow_succ] at h; omega) (by omega)
      simp; omega
/-- Digits on an array of zeros. -/
theorem set_dig (at_ : Nat) (l : List UInt8) (c : UInt8) : (byteCells (List.replicate (at_ + 1) 0 ++ l)).toArray.setIfInBounds at_ (.int .u8 (c.toNat : Int)) = (byteCells (List.replicate at_ 0 ++ c :: l)).toArray := by
  apply Array.ext'
  simp only [List.setIfInBounds_toArray]
  rw [List.replicate_succ']
  simp only [byteCells, List.map_append, List.map_cons, List.map_nil, List.append_assoc]
  rw [List.set_append_right _ _ (by simp)]
  simp
theorem conv_row' {w : World} {g off cap : Nat} {bs : List UInt8} (h : ∀ j (hj : j < bs.length), w.cell? ⟨g, off + j, none⟩ = some (.int .u8 (bs[j].toNat : Int))) :
    (convert 75 9 (.slice (some ⟨g, off, none⟩) bs.length cap)).run Tryd.prog w = .ok (.string ⟨bs.toArray⟩) w :=
  Go.run_convert_bytes_back w 75 9 5 ⟨g, off, none⟩ cap bs Tryd.underlying75 Tryd.underlying5 Tryd.underlying9 (fun j hj => by
    have hadd : (⟨g, off, none⟩ : Addr).add j = ⟨g, off + j, none⟩ := by unfold Addr.add; split <;> simp_all
    rw [hadd]
    exact h j hj)
theorem u8_of (x : Nat) (h : x < 256) : Value.int .u8 ((x.toUInt8).toNat : Int) = .int .u8 (x : Int) := by
  have e : (x.toUInt8).toNat = x % 256 := UInt8.toNat_ofNat' ..
  rw [e, Nat.mod_eq_of_lt h]
theorem run_slice20 (g : Nat) (r : Nat) (h : r < 20) (w : World) :
    (Instr.sliceAt 110 (.pointer (some ⟨g, 0, none⟩)) (some (.int .i64 (r : Int))) none none).run Tryd.prog w = .ok (.slice (some ⟨g, r, none⟩) (20 - r) (20 - r)) w := by
  have ht : Tryd.prog.underlying 110 = some (.array (Tryd.prog.arrayLen 110) (Tryd.prog.elem 110)) := by kernel_rfl
  have hl : Tryd.prog.arrayLen 110 = 20 := by kernel_rfl
  have hs : (sizeOf (Tryd.prog.elem 110)).run Tryd.prog w = .ok 1 w := by kernel_rfl
  rw [run_sliceAt_array_l w _ _ ht .i64 (r : Int) (by omega) (by rw [hl]; omega), hs, hl]
  simp only [Result.andThen, slicedAt, Addr.add]
  rw [if_neg (by omega)]
  simp
  omega
theorem conv20 {w : World} {g k : Nat} {l : List UInt8} (hl : k + l.length = 20) (hB : Blk w g 110 (byteCells (List.replicate k 0 ++ l)).toArray) :
    (convert 75 9 (.slice (some ⟨g, k, none⟩) (20 - k) (20 - k))).run Tryd.prog w = .ok (.string ⟨l.toArray⟩) w := by
  have h := conv_row' (w := w) (g := g) (off := k) (cap := 20 - k) (bs := l) (fun j hj => by
    rw [hB.cell]
    simp only [byteCells, List.map_append, List.getElem?_toArray]
    rw [List.getElem?_append_right (by simp)]
    simp [hj])
  rw [show l.length = 20 - k from by omega] at h
  exact h
set_option maxRecDepth 100000 in
set_option maxHeartbeats 1000000 in
theorem dec_pos (n : Nat) (w : World) (h1 : n ≤ 9223372036854775807) :
    Calls Tryd.prog 43 #[.int .i64 (n : Int)] w fun e w' => e = .returned (.string ⟨(digL n).toArray⟩) ∧ Below w.heap.size w w' := by
  have hw : IntKind.u64.wrap (n : Int) = (n : Int) := by simp [IntKind.wrap, IntKind.bits, IntKind.signed]; omega
  have hnn : ((n : Int) < 0) = False := by simp
  have hsl := run_slice20 w.heap.size
  have HSL := hide hsl; clear hsl
  go_enter Tryd.func43, Tryd.ntmps43
  go_wp2_with fail
  have hB0 : Blk (w.alloc (.cells #[.int .u8 0, .int .u8 0, .int .u8 0, .int .u8 0, .int .u8 0, .int .u8 0, .int .u8 0, .int .u8 0, .int .u8 0, .int .u8 0, .int .u8 0, .int .u8 0, .int .u8 0, .int .u8 0, .int .u8 0, .int .u8 0, .int .u8 0, .int .u8 0, .int .u8 0, .int .u8 0] 110)) w.heap.size 110 (byteCells (List.replicate 20 0 ++ [])).toArray := Blk.new _ _ _
  have HB0 := hide hB0; clear hB0
  go_loopw [4, 5] (fun i u wr => ∃ (at_ m : Nat) (l : List UInt8), i = .int .i64 (at_ : Nat) ∧ u = .int .u64 (m : Nat) ∧ at_ ≤ 20 ∧ 2 ≤ at_ ∧ m < 10 ^ (at_ - 1) ∧ Hid (digL n = digL m ++ l) ∧ at_ + l.length = 20 ∧ Blk wr w.heap.size 110 (byteCells (List.replicate at_ 0 ++ l)).toArray ∧ Below w.heap.size w wr) (fun i _ _ => (intOf i).toNat)
  case atStart => exact ⟨20, n, [], rfl, rfl, by omega, by omega, by omega, by simp [Hid], rfl, unhide HB0, (Below.refl _ _).alloc (Nat.le_refl _) _⟩
  case round =>
    clear HB0
    obtain ⟨at_, m, l, rfl, rfl, ha, ha2, hm, hd, hl, hB, hb⟩ := hrel
    obtain ⟨k, rfl⟩ : ∃ k, at_ = k + 1 := ⟨at_ - 1, by omega⟩
    have hm10 : m < 10000000000000000000 := Nat.lt_of_lt_of_le hm (Nat.pow_le_pow_right (i := k + 1 - 1) (j := 19) (by omega : 10 > 0) (by omega))
    rw [show (((k + 1 : Nat) : Int)) = (k : Int) + 1 from by omega]
    have hk0 : (0 : Int) ≤ (k : Int) := by omega
    have hk20 : (k : Int) < 20 := by omega
    have f1 := hB.frozen k
    have c1 : wr.cell? ⟨w.heap.size, k, none⟩ = some (.int .u8 0) := by
      rw [hB.cell k]
      simp [byteCells, List.getElem?_append]
    have hlt10 : m % 10 < 10 := Nat.mod_lt _ (by omega)
    have hB' : Blk (wr.setCell ⟨w.heap.size, k, none⟩ (.int .u8 (48 + (m : Int) % 10))) w.heap.size 110 (byteCells (List.replicate k 0 ++ (48 + m % 10).toUInt8 :: l)).toArray := by
      have h := hB.set_ k (.int .u8 (((48 + m % 10).toUInt8).toNat : Int))
      rw [set_dig] at h
      rw [u8_of _ (by omega)] at h
      rw [show ((48 + m % 10 : Nat) : Int) = 48 + (m : Int) % 10 from by omega] at h
      exact h
    have hb' : Below w.heap.size w (wr.setCell ⟨w.heap.size, k, none⟩ (.int .u8 (48 + (m : Int) % 10))) := hb.setCell (Nat.le_refl _) _
    rcases Nat.lt_or_ge m 10 with hm9 | hm9
    · have hz : ((m : Int) / 10 == 0) = true := by simp; omega
      have hdm : Hid (digL n = (48 + m % 10).toUInt8 :: l) := by
        rw [Hid, hd.out, digL_lt hm9, Nat.mod_eq_of_lt hm9]; rfl
      have hcv := conv20 (by simp; omega) hB'
      have hs2 := unhide HSL k (by omega)
      have Hx := hide (And.intro hdm hb'); clear hd hl hB hb hdm hB' hb' hm
      go_wp2_with fail
      go_ret
      exact ⟨ret_str (by rw [(unhide Hx).1.out]; simp), (unhide Hx).2⟩
    · have hz : ((m : Int) / 10 == 0) = false := by simp; omega
      have hdm : Hid (digL n = digL (m / 10) ++ (48 + m % 10).toUInt8 :: l) := by
        rw [Hid, hd.out, digL_ge hm9, List.append_assoc]; rfl
      have hk2 : m / 10 < 10 ^ (k - 1) := by
        have e : k + 1 - 1 = k - 1 + 1 := by
          rcases Nat.eq_zero_or_pos k with h0 | h0
          · subst h0; simp at hm; omega
          · omega
        rw [e, Nat.pow_succ] at hm
        omega
      have hk3 : 2 ≤ k := by
        rcases Nat.lt_or_ge k 2 with h | h
        · have : k - 1 = 0 := by omega
          rw [this] at hk2
          simp at hk2
          omega
        · exact h
      have Hx := hide (And.intro hdm (And.intro hk2 (And.intro hl (And.intro hB' hb')))); clear hd hl hB hb hdm hB' hb' hm hk2
      go_wp2_with fail
      go_roundw
      case rel =>
        obtain ⟨hdm, hk2, hl, hB', hb'⟩ := unhide Hx
        exact ⟨k, m / 10, (48 + m % 10).toUInt8 :: l, rfl, by rfl, by omega, hk3, hk2, hdm, by simp; omega, hB', hb'⟩
      case measure => simp [intOf]
set_option maxRecDepth 100000 in
set_option maxHeartbeats 1000000 in
theorem dec_neg (n : Nat) (w : World) (h0 : 1 ≤ n) (h1 : n ≤ 9223372036854775808) :
    Calls Tryd.prog 43 #[.int .i64 (-(n : Int))] w fun e w' => e = .returned (.string ⟨(45 :: digL n).toArray⟩) ∧ Below w.heap.size w w' := by
  have hw : IntKind.u64.wrap (-IntKind.u64.wrap (-(n : Int))) = (n : Int) := by simp [IntKind.wrap, IntKind.bits, IntKind.signed]; omega
  have hnn : (-(n : Int) < 0) = True := by simp; omega
  have hsl := run_slice20 w.heap.size
  have HSL := hide hsl; clear hsl
  go_enter Tryd.func43, Tryd.ntmps43
  go_wp2_with fail
  have hB0 : Blk (w.alloc (.cells #[.int .u8 0, .int .u8 0, .int .u8 0, .int .u8 0, .int .u8 0, .int .u8 0, .int .u8 0, .int .u8 0, .int .u8 0, .int .u8 0, .int .u8 0, .int .u8 0, .int .u8 0, .int .u8 0, .int .u8 0, .int .u8 0, .int .u8 0, .int .u8 0, .int .u8 0, .int .u8 0] 110)) w.heap.size 110 (byteCells (List.replicate 20 0 ++ [])).toArray := Blk.new _ _ _
  have HB0 := hide hB0; clear hB0
  go_loopw [4, 5] (fun i u wr => ∃ (at_ m : Nat) (l : List UInt8), i = .int .i64 (at_ : Nat) ∧ u = .int .u64 (m : Nat) ∧ at_ ≤ 20 ∧ 2 ≤ at_ ∧ m < 10 ^ (at_ - 1) ∧ Hid (digL n = digL m ++ l) ∧ at_ + l.length = 20 ∧ Blk wr w.heap.size 110 (byteCells (List.replicate at_ 0 ++ l)).toArray ∧ Below w.heap.size w wr) (fun i _ _ => (intOf i).toNat)
  case atStart => exact ⟨20, n, [], rfl, rfl, by omega, by omega, by omega, by simp [Hid], rfl, unhide HB0, (Below.refl _ _).alloc (Nat.le_refl _) _⟩
  case round =>
    clear HB0
    obtain ⟨at_, m, l, rfl, rfl, ha, ha2, hm, hd, hl, hB, hb⟩ := hrel
    obtain ⟨k, rfl⟩ : ∃ k, at_ = k + 1 := ⟨at_ - 1, by omega⟩
    have hm10 : m < 10000000000000000000 := Nat.lt_of_lt_of_le hm (Nat.pow_le_pow_right (i := k + 1 - 1) (j := 19) (by omega : 10 > 0) (by omega))
    rw [show (((k + 1 : Nat) : Int)) = (k : Int) + 1 from by omega]
    have hk0 : (0 : Int) ≤ (k : Int) := by omega
    have hk20 : (k : Int) < 20 := by omega
    have f1 := hB.frozen k
    have c1 : wr.cell? ⟨w.heap.size, k, none⟩ = some (.int .u8 0) := by
      rw [hB.cell k]
      simp [byteCells, List.getElem?_append]
    have hlt10 : m % 10 < 10 := Nat.mod_lt _ (by omega)
    have hB' : Blk (wr.setCell ⟨w.heap.size, k, none⟩ (.int .u8 (48 + (m : Int) % 10))) w.heap.size 110 (byteCells (List.replicate k 0 ++ (48 + m % 10).toUInt8 :: l)).toArray := by
      have h := hB.set_ k (.int .u8 (((48 + m % 10).toUInt8).toNat : Int))
      rw [set_dig] at h
      rw [u8_of _ (by omega)] at h
      rw [show ((48 + m % 10 : Nat) : Int) = 48 + (m : Int) % 10 from by omega] at h
      exact h
    have hb' : Below w.heap.size w (wr.setCell ⟨w.heap.size, k, none⟩ (.int .u8 (48 + (m : Int) % 10))) := hb.setCell (Nat.le_refl _) _
    rcases Nat.lt_or_ge m 10 with hm9 | hm9
    · have hz : ((m : Int) / 10 == 0) = true := by simp; omega
      have hdm : Hid (digL n = (48 + m % 10).toUInt8 :: l) := by
        rw [Hid, hd.out, digL_lt hm9, Nat.mod_eq_of_lt hm9]; rfl
      obtain ⟨j, rfl⟩ : ∃ j, k = j + 1 := ⟨k - 1, by omega⟩
      have f2 := hB'.frozen j
      have c2 : (wr.setCell ⟨w.heap.size, j + 1, none⟩ (.int .u8 (48 + (m : Int) % 10))).cell? ⟨w.heap.size, j, none⟩ = some (.int .u8 0) := by
        rw [hB'.cell j]
        simp [byteCells, List.getElem?_append]
      have hB2 : Blk ((wr.setCell ⟨w.heap.size, j + 1, none⟩ (.int .u8 (48 + (m : Int) % 10))).setCell ⟨w.heap.size, j, none⟩ (.int .u8 45)) w.heap.size 110 (byteCells (List.replicate j 0 ++ 45 :: (48 + m % 10).toUInt8 :: l)).toArray := by
        have h := hB'.set_ j (.int .u8 (((45 : UInt8)).toNat : Int))
        rw [set_dig] at h
        exact h
      have hcv := conv20 (by simp; omega) hB2
      have hs2 := unhide HSL j (by omega)
      have hb2 := hb'.setCell (p := ⟨w.heap.size, j, none⟩) (Nat.le_refl _) (.int .u8 45)
      have hj0 : (0 : Int) ≤ (j : Int) := by omega
      have Hx := hide (And.intro hdm hb2); clear hd hl hB hb hdm hB' hb' hm hB2 hb2
      rw [show (((j + 1 : Nat) : Int)) = (j : Int) + 1 from by omega]
      go_wp2_with fail
      go_ret
      exact ⟨ret_str (by rw [(unhide Hx).1.out]; simp), (unhide Hx).2⟩
    · have hz : ((m : Int) / 10 == 0) = false := by simp; omega
      have hdm : Hid (digL n = digL (m / 10) ++ (48 + m % 10).toUInt8 :: l) := by
        rw [Hid, hd.out, digL_ge hm9, List.append_assoc]; rfl
      have hk2 : m / 10 < 10 ^ (k - 1) := by
        have e : k + 1 - 1 = k - 1 + 1 := by
          rcases Nat.eq_zero_or_pos k with h0 | h0
          · subst h0; simp at hm; omega
          · omega
        rw [e, Nat.pow_succ] at hm
        omega
      have hk3 : 2 ≤ k := by
        rcases Nat.lt_or_ge k 2 with h | h
        · have : k - 1 = 0 := by omega
          rw [this] at hk2
          simp at hk2
          omega
        · exact h
      have Hx := hide (And.intro hdm (And.intro hk2 (And.intro hl (And.intro hB' hb')))); clear hd hl hB hb hdm hB' hb' hm hk2
      go_wp2_with fail
      go_roundw
      case rel =>
        obtain ⟨hdm, hk2, hl, hB', hb'⟩ := unhide Hx
        exact ⟨k, m / 10, (48 + m % 10).toUInt8 :: l, rfl, by rfl, by omega, hk3, hk2, hdm, by simp; omega, hB', hb'⟩
      case measure => simp [intOf]
theorem dec_any (z : Int) (w : World) (h0 : -9223372036854775808 ≤ z) (h1 : z ≤ 9223372036854775807) :
    Calls Tryd.prog 43 #[.int .i64 z] w fun e w' => e = .returned (.string (decS z)) ∧ Below w.heap.size w w' := by
  by_cases hz : z < 0
  · have h := dec_neg (-z).toNat w (by omega) (by omega)
    rw [show (-((-z).toNat : Int)) = z from by omega] at h
    refine h.mono ?_
    rintro e w' ⟨rfl, hb⟩
    exact ⟨ret_str (by unfold decS decL; rw [if_neg (by omega)]), hb⟩
  · have h := dec_pos z.toNat w (by omega)
    rw [show ((z.toNat : Int)) = z from by omega] at h
    refine h.mono ?_
    rintro e w' ⟨rfl, hb⟩
    exact ⟨ret_str (by unfold decS decL; rw [if_pos (by omega)]), hb⟩
set_option maxRecDepth 100000 in
theorem sign_any (s : ByteArray) (v : Nat) (w : World) (hv : v < s.size) (hs : s.size ≤ 1000) :
    Calls Tryd.prog 79 #[.string s, .int .i64 (v : Int)] w fun e w' => e = .returned (.string (s.extract v (v + 1))) ∧ w = w' := by
  have h1 : (v : Int) + 1 ≤ s.size := by omega
  have h0 : (0 : Int) ≤ (v : Int) := by omega
  go_enter Tryd.func79, Tryd.ntmps79
  go_wp2
  go_ret
  exact ⟨rfl, rfl⟩
/-- "0123456789abcdef" -/
def smallS : ByteArray := ⟨#[48, 49, 50, 51, 52, 53, 54, 55, 56, 57, 97, 98, 99, 100, 101, 102]⟩
theorem small_at (v : Nat) (h : v < 10) : smallS.extract v (v + 1) = ⟨#[(48 + v).toUInt8]⟩ := by
  match v, h with
  | 0, _ => rfl
  | 1, _ => rfl
  | 2, _ => rfl
  | 3, _ => rfl
  | 4, _ => rfl
  | 5, _ => rfl
  | 6, _ => rfl
  | 7, _ => rfl
  | 8, _ => rfl
  | 9, _ => rfl
theorem sign10 (v : Nat) (w : World) (h : v < 10) :
    Calls Tryd.prog 79 #[.string ⟨#[48, 49, 50, 51, 52, 53, 54, 55, 56, 57, 97, 98, 99, 100, 101, 102]⟩, .int .i64 (v : Int)] w fun e w' => e = .returned (.string ⟨#[(48 + v).toUInt8]⟩) ∧ w = w' := by
  refine (sign_any smallS v w (by show v < 16; omega) (by decide)).mono ?_
  rintro e w' ⟨rfl, rfl⟩
  exact ⟨ret_str (small_at v h), rfl⟩
theorem bs_eq {a b : ByteArray} (h : a.data.toList = b.data.toList) : a = b := ByteArray.ext (Array.ext' h)
set_option maxRecDepth 100000 in
theorem rdec_pos : ∀ (k n : Nat) (w : World), n < 10 ^ k → n ≤ 9223372036854775807 →
    Calls Tryd.prog 47 #[.int .i64 (n : Int)] w fun e w' => e = .returned (.string ⟨(digL n).toArray⟩) ∧ w = w'
  | 0, n, w, h, h1 => by
    have : n = 0 := by simpa using h
    subst this
    have hs := sign10 0 w (by omega)
    have hd : Hid (digL 0 = [(48 + 0).toUInt8]) := digL_lt (by omega)
    go_enter Tryd.func47, Tryd.ntmps47
    go_wp2_with fail
    refine hs.mono ?_
    rintro e w' ⟨rfl, rfl⟩
    go_wp2_with fail
    go_ret
    exact ⟨ret_str (by rw [hd.out]; rfl), rfl⟩
  | k + 1, n, w, h, h1 => by
    rcases Nat.lt_or_ge n 10 with h9 | h9
    · have hs := sign10 n w h9
      have hd : Hid (digL n = [(48 + n).toUInt8]) := digL_lt h9
      go_enter Tryd.func47, Tryd.ntmps47
      go_wp2_with fail
      refine hs.mono ?_
      rintro e w' ⟨rfl, rfl⟩
      go_wp2_with fail
      go_ret
      exact ⟨ret_str (by rw [hd.out]; simp), rfl⟩
    · have ih := rdec_pos k (n / 10) w (by rw [Nat.pow_succ] at h; omega) (by omega)
      have hs := sign10 (n % 10) w (Nat.mod_lt _ (by omega))
      have hd : Hid (digL n = digL (n / 10) ++ [(48 + n % 10).toUInt8]) := digL_ge h9
      have hl : ((⟨(digL (n / 10)).toArray⟩ : ByteArray)).size ≤ 40 := by
        have := digL_length 19 (n / 10) (by omega) (by omega)
        simp [ByteArray.size]; omega
      have Hs := hide hs; clear hs
      have Hih := hide ih; clear ih
      go_enter Tryd.func47, Tryd.ntmps47
      go_wp2_with fail
      refine (unhide Hih).mono ?_
      rintro e w' ⟨rfl, rfl⟩
      obtain ⟨x, hx⟩ : ∃ x, Hid ((⟨(digL (n / 10)).toArray⟩ : ByteArray) = x) := ⟨_, Lib.hid rfl⟩
      rw [hx.out] at hl ⊢
      go_wp2_with fail
      refine (unhide Hs).mono ?_
      rintro e w' ⟨rfl, rfl⟩
      go_wp2_with fail
      go_ret
      refine ⟨ret_str (bs_eq ?_), rfl⟩
      rw [hd.out, ← hx.out]
      simp [ByteArray.data_append]
set_option maxRecDepth 100000 in
theorem rdec_neg : ∀ (k n : Nat) (w : World), n < 10 ^ k → 1 ≤ n → n ≤ 9223372036854775808 →
    Calls Tryd.prog 47 #[.int .i64 (-(n : Int))] w fun e w' => e = .returned (.string ⟨(45 :: digL n).toArray⟩) ∧ w = w'
  | 0, n, w, h, h0, h1 => by
    have : n = 0 := by simpa using h
    omega
  | k + 1, n, w, h, h0, h1 => by
    rcases Nat.lt_or_ge n 10 with h9 | h9
    · have hs := sign10 n w h9
      have hd : Hid (digL n = [(48 + n).toUInt8]) := digL_lt h9
      go_enter Tryd.func47, Tryd.ntmps47
      go_wp2_with fail
      refine hs.mono ?_
      rintro e w' ⟨rfl, rfl⟩
      go_wp2_with fail
      go_ret
      exact ⟨ret_str (bs_eq (by rw [hd.out]; simp [ByteArray.data_append])), rfl⟩
    · have ih := rdec_neg k (n / 10) w (by rw [Nat.pow_succ] at h; omega) (by omega) (by omega)
      have hs := sign10 (n % 10) w (Nat.mod_lt _ (by omega))
      have hd : Hid (digL n = digL (n / 10) ++ [(48 + n % 10).toUInt8]) := digL_ge h9
      have hl : ((⟨(45 :: digL (n / 10)).toArray⟩ : ByteArray)).size ≤ 40 := by
        have := digL_length 19 (n / 10) (by omega) (by omega)
        simp [ByteArray.size]; omega
      have Hs := hide hs; clear hs
      have Hih := hide ih; clear ih
      go_enter Tryd.func47, Tryd.ntmps47
      go_wp2_with fail
      refine (unhide Hih).mono ?_
      rintro e w' ⟨rfl, rfl⟩
      obtain ⟨x, hx⟩ : ∃ x, Hid ((⟨(45 :: digL (n / 10)).toArray⟩ : ByteArray) = x) := ⟨_, Lib.hid rfl⟩
      rw [hx.out] at hl ⊢
      go_wp2_with fail
      refine (unhide Hs).mono ?_
      rintro e w' ⟨rfl, rfl⟩
      go_wp2_with fail
      go_ret
      refine ⟨ret_str (bs_eq ?_), rfl⟩
      rw [hd.out, ← hx.out]
      simp [ByteArray.data_append]
theorem rdec_any (z : Int) (w : World) (h0 : -9223372036854775808 ≤ z) (h1 : z ≤ 9223372036854775807) :
    Calls Tryd.prog 47 #[.int .i64 z] w fun e w' => e = .returned (.string (decS z)) ∧ w = w' := by
  by_cases hz : z < 0
  · have h := rdec_neg 19 (-z).toNat w (by omega) (by omega) (by omega)
    rw [show (-((-z).toNat : Int)) = z from by omega] at h
    refine h.mono ?_
    rintro e w' ⟨rfl, hb⟩
    exact ⟨ret_str (by unfold decS decL; rw [if_neg (by omega)]), hb⟩
  · have h := rdec_pos 19 z.toNat w (by omega) (by omega)
    rw [show ((z.toNat : Int)) = z from by omega] at h
    refine h.mono ?_
    rintro e w' ⟨rfl, hb⟩
    exact ⟨ret_str (by unfold decS decL; rw [if_pos (by omega)]), hb⟩
end Go.Proofs.YtfhaoamlagnpjaaDoor

set_option linter.unusedVariables false
set_option linter.unusedSimpArgs false
namespace Go.Proofs.YtfhaoamlagnpjaaDoor
open Go.RowKit Go.Lib
theorem run_copy_str (w : World) (ty : TypeId) (g off dLen dCap : Nat) (s : ByteArray) (T : TypeId) (cur : Array Value) (hB : Blk w g T cur) (n : Nat) (hn : n = min s.size dLen) (hfit : off + n ≤ cur.size) :
    (Builtin.copy_ #[75, 9] ty #[.slice (some ⟨g, off, none⟩) dLen dCap, .string s]).run Tryd.prog w = .ok (.int .i64 n) (w.setRow g (cur.toList.take off ++ byteCells (s.data.toList.take n) ++ cur.toList.drop (off + n)).toArray) := by
  obtain ⟨i, hi, hz, hs1, hb1⟩ := info_parts byteInfo
  have hmin : Nat.min s.size dLen = n := hn.symm
  have hl : (byteCells (s.data.toList.take n)).length = n := by rw [byteCells_length, List.length_take]; simp; omega
  have hst := run_storeCells_at Tryd.prog g off T (byteCells (s.data.toList.take n)) 0 cur w hB (by rw [hl]; simpa using hfit) (bytes_one _)
  have hf : (Builtin.firstCells 1 n (.string s)).run Tryd.prog w = .ok (byteCells (s.data.toList.take n)).toArray w := by
    simp [Builtin.firstCells, byteCells, ByteArray.extract, ByteArray.copySlice]
    apply Array.ext'
    simp
  simp only [Nat.add_zero, hl] at hst
  simp [Builtin.copy_, run_underlying Tryd.underlying75, Builtin.lenOf, sizeOf, typeInfo, hi, hs1, hmin, hf, hst]
  rfl
theorem wpList_copy_str {ops : Array Oper} {rest : List Oper} {o : Oper} {a : Act} {Q : Exit → Act → World → Prop} (w : World) (hgd : o.guard = none) (d s : Operand)
    (ho : o.op = .call { callee := .builtin .copy, args := #[d, s], argTypes := #[75, 9] }) {T : TypeId} {cur : Array Value} {g : Nat} (hB : Blk w g T cur) (off dLen dCap : Nat) (st : ByteArray) (hd : a.eval d = .slice (some ⟨g, off, none⟩) dLen dCap) (hs : a.eval s = .string st)
    (n : Nat) (hn : n = min st.size dLen) (hfit : off + n ≤ cur.size)
    (h : ∀ w', Blk w' g T (cur.toList.take off ++ byteCells (st.data.toList.take n) ++ cur.toList.drop (off + n)).toArray → w.grownBy w' (some g) → w'.heap.size = w.heap.size → wpList Tryd.prog ops Q rest (a.put o.dst (.int .i64 n)) w') : wpList Tryd.prog ops Q (o :: rest) a w := by
  refine wpList_plain hgd fun _ hK => ?_
  have hr := run_copy_str w o.type g off dLen dCap st T cur hB n hn hfit
  unfold Oper.wp execOp
  simp only [ho, resolve, invoke, builtin, Sem.run_bind, Sem.run_pure, Result.andThen_ok, List.map_toArray, List.map_cons, List.map_nil, hd, hs, hr]
  exact hK _ _ (h _ (setRow_heap w g _ _ _ _ hB) ⟨rfl, rfl, rfl, by simp, fun k _ hk => setRow_other w g k _ (fun e => hk (by rw [e]))⟩ (by simp))
def strSize : Value → Nat
  | .string s => s.size
  | _ => 0
theorem bytes_extract (s : ByteArray) (a b : Nat) (h : b ≤ s.size) : (s.extract a b).data.toList = (s.data.toList.drop a).take (b - a) := by
  simp [ByteArray.extract, ByteArray.copySlice]
end Go.Proofs.YtfhaoamlagnpjaaDoor

set_option linter.unusedVariables false
set_option linter.unusedSimpArgs false
namespace Go.Proofs.YtfhaoamlagnpjaaDoor
open Go.RowKit
theorem wrap64_mod (x : Int) : ∃ k : Int, wrap64 x = x + k * 18446744073709551616 := by
  refine ⟨-((x + 9223372036854775808) / 18446744073709551616), ?_⟩
  unfold wrap64
  omega
theorem wrap64_of (x y : Int) (k : Int) (h : x = y + k * 18446744073709551616) : wrap64 x = wrap64 y := by
  subst h
  unfold wrap64
  omega
theorem stepA (x a b : Int) (h : 10 * x + a - 48 = b) : wrap64 (10 * wrap64 x + a - 48) = wrap64 b := by
  obtain ⟨k, hk⟩ := wrap64_mod x
  rw [hk]
  exact wrap64_of _ _ (10 * k) (by omega)
theorem stepB (x a b : Int) (h : 10 * x - (a - 48) = b) : wrap64 (10 * wrap64 x - (a - 48)) = wrap64 b := by
  obtain ⟨k, hk⟩ := wrap64_mod x
  rw [hk]
  exact wrap64_of _ _ (10 * k) (by omega)
theorem wrap64_lo (x : Int) : -9223372036854775808 ≤ wrap64 x ∧ wrap64 x ≤ 9223372036854775807 := by unfold wrap64; omega
theorem wrap64_id (x : Int) (h0 : -9223372036854775808 ≤ x) (h1 : x ≤ 9223372036854775807) : wrap64 x = x := by unfold wrap64; omega
theorem wrap64_neg (x : Int) (h0 : -9223372036854775808 ≤ x) (h1 : x ≤ 9223372036854775807) (m : Int) (h : m = -x) : wrap64 (-(wrap64 m)) = x := by
  subst h
  obtain ⟨k, hk⟩ := wrap64_mod (-x)
  rw [hk, wrap64_of _ x (-k) (by omega), wrap64_id x h0 h1]
/-- One digit more, the program's way and the document's. -/
def undStep (n : Int) (c : UInt8) : Int := wrap64 (10 * n + (c.toNat : Int) - 48)
def rundStep (n : Int) (c : UInt8) : Int := if 48 ≤ c.toNat ∧ c.toNat ≤ 57 then wrap64 (10 * n - ((c.toNat : Int) - 48)) else n
theorem dig_nat (d : Nat) (h : d < 10) : ((48 + d).toUInt8).toNat = 48 + d := by
  have e : ((48 + d).toUInt8).toNat = (48 + d) % 256 := UInt8.toNat_ofNat' ..
  omega
theorem und_dig (m : Nat) : (digL m).foldl undStep 0 = wrap64 m := by
  induction m using Nat.strongRecOn with
  | _ m ih =>
    rcases Nat.lt_or_ge m 10 with h | h
    · rw [digL_lt h]
      rw [List.foldl_cons, List.foldl_nil, undStep, dig_nat m h]
      have e : (10 * 0 + ((48 + m : Nat) : Int) - 48) = (m : Int) := by omega
      rw [e]
    · have hm := Nat.mod_lt m (y := 10) (by omega)
      rw [digL_ge h, List.foldl_append, ih _ (by omega)]
      rw [List.foldl_cons, List.foldl_nil, undStep, dig_nat _ hm]
      have e : 10 * ((m / 10 : Nat) : Int) + ((48 + m % 10 : Nat) : Int) - 48 = (m : Int) := by omega
      rw [stepA _ _ _ e]
theorem rund_dig (m : Nat) : (digL m).foldl rundStep 0 = wrap64 (-(m : Int)) := by
  induction m using Nat.strongRecOn with
  | _ m ih =>
    rcases Nat.lt_or_ge m 10 with h | h
    · rw [digL_lt h]
      rw [List.foldl_cons, List.foldl_nil, rundStep, dig_nat m h, if_pos (by omega)]
      have e : (10 * 0 - (((48 + m : Nat) : Int) - 48)) = -(m : Int) := by omega
      rw [e]
    · have hm := Nat.mod_lt m (y := 10) (by omega)
      rw [digL_ge h, List.foldl_append, ih _ (by omega)]
      rw [List.foldl_cons, List.foldl_nil, rundStep, dig_nat _ hm, if_pos (by omega)]
      have e : 10 * (-((m / 10 : Nat) : Int)) - (((48 + m % 10 : Nat) : Int) - 48) = -(m : Int) := by omega
      rw [stepB _ _ _ e]
theorem digL_ne (m : Nat) : digL m ≠ [] := by
  rcases Nat.lt_or_ge m 10 with h | h
  · rw [digL_lt h]; simp
  · rw [digL_ge h]; simp
theorem digL_head (m : Nat) : (digL m).head? ≠ some 45 := by
  induction m using Nat.strongRecOn with
  | _ m ih =>
    rcases Nat.lt_or_ge m 10 with h | h
    · rw [digL_lt h, List.head?_cons]
      intro e
      injection e with e
      have := congrArg UInt8.toNat e
      rw [dig_nat m h] at this
      rw [show (45 : UInt8).toNat = 45 from rfl] at this
      omega
    · rw [digL_ge h, List.head?_append]
      have hn := ih (m / 10) (by omega)
      cases hd : (digL (m / 10)).head? with
      | none => exact absurd (List.head?_eq_none_iff.1 hd) (digL_ne _)
      | some x => rw [hd] at hn; exact hn
/-- The number that a text might be. -/
def undL (l : List UInt8) : Int := match l with
  | 45 :: r => wrap64 (-(r.foldl undStep 0))
  | l => l.foldl undStep 0
def rundL (l : List UInt8) : Int := if l.head? = some 45 then l.foldl rundStep 0 else wrap64 (-(l.foldl rundStep 0))
theorem undL_neg (r : List UInt8) : undL (45 :: r) = wrap64 (-(r.foldl undStep 0)) := rfl
theorem undL_pos (l : List UInt8) (h : l.head? ≠ some 45) : undL l = l.foldl undStep 0 := by
  unfold undL
  split
  · exact absurd rfl h
  · rfl
theorem undL_dec (z : Int) (h0 : -9223372036854775808 ≤ z) (h1 : z ≤ 9223372036854775807) : undL (decL z) = z := by
  unfold decL
  split
  · rw [undL_pos _ (digL_head _), und_dig, wrap64_id _ (by omega) (by omega)]
    omega
  · rw [undL_neg, und_dig]
    exact wrap64_neg z h0 h1 _ (by omega)
theorem rundL_dec (z : Int) (h0 : -9223372036854775808 ≤ z) (h1 : z ≤ 9223372036854775807) : rundL (decL z) = z := by
  unfold decL rundL
  split
  · rw [if_neg (digL_head _), rund_dig]
    exact wrap64_neg z h0 h1 _ (by omega)
  · rw [if_pos (List.head?_cons ..), List.foldl_cons, show rundStep 0 45 = 0 from rfl, rund_dig, wrap64_id _ (by omega) (by omega)]
    omega
theorem und_fold_lo (l : List UInt8) : ∀ n : Int, -9223372036854775808 ≤ n ∧ n ≤ 9223372036854775807 → -9223372036854775808 ≤ l.foldl undStep n ∧ l.foldl undStep n ≤ 9223372036854775807 := by
  induction l with
  | nil => exact fun n h => h
  | cons c r ih => exact fun n h => ih _ (wrap64_lo _)
theorem rund_fold_lo (l : List UInt8) : ∀ n : Int, -9223372036854775808 ≤ n ∧ n ≤ 9223372036854775807 → -9223372036854775808 ≤ l.foldl rundStep n ∧ l.foldl rundStep n ≤ 9223372036854775807 := by
  induction l with
  | nil => exact fun n h => h
  | cons c r ih =>
    intro n h
    refine ih _ ?_
    unfold rundStep
    split
    · exact wrap64_lo _
    · exact h
theorem undL_lo (l : List UInt8) : -9223372036854775808 ≤ undL l ∧ undL l ≤ 9223372036854775807 := by
  unfold undL
  split
  · exact wrap64_lo _
  · exact und_fold_lo _ _ (by omega)
theorem rundL_lo (l : List UInt8) : -9223372036854775808 ≤ rundL l ∧ rundL l ≤ 9223372036854775807 := by
  unfold rundL
  split
  · exact rund_fold_lo _ _ (by omega)
  · exact wrap64_lo _
theorem decL_ne (z : Int) : decL z ≠ [] := by
  unfold decL
  split
  · exact digL_ne _
  · simp
theorem decL_length (z : Int) (h0 : -9223372036854775808 ≤ z) (h1 : z ≤ 9223372036854775807) : (decL z).length ≤ 20 := by
  unfold decL
  split
  · have := digL_length 19 z.toNat (by omega) (by omega)
    omega
  · have := digL_length 19 (-z).toNat (by omega) (by omega)
    simp
    omega
/-- The number that is written so, if one is. -/
def undV (s : ByteArray) : Option Int := if decS (undL s.data.toList) = s then some (undL s.data.toList) else none
theorem undV_of {s : ByteArray} {z : Int} (h0 : -9223372036854775808 ≤ z) (h1 : z ≤ 9223372036854775807) (h : decS z = s) : undV s = some z := by
  have e : s.data.toList = decL z := by rw [← h]; rfl
  unfold undV
  rw [e, undL_dec z h0 h1, if_pos h]
theorem undV_none {s : ByteArray} (h : ∀ z : Int, -9223372036854775808 ≤ z → z ≤ 9223372036854775807 → decS z ≠ s) : undV s = none := by
  unfold undV
  rw [if_neg (h _ (undL_lo _).1 (undL_lo _).2)]
theorem undV_some {s : ByteArray} {z : Int} (h : undV s = some z) : decS z = s ∧ -9223372036854775808 ≤ z ∧ z ≤ 9223372036854775807 := by
  unfold undV at h
  split at h
  · injection h with h
    subst h
    exact ⟨by assumption, undL_lo _⟩
  · cases h
theorem undV_size {s : ByteArray} (h : s.size = 0 ∨ 20 < s.size) : undV s = none := by
  refine undV_none fun z h0 h1 e => ?_
  have h2 := decL_length z h0 h1
  have h3 := List.length_pos_iff.2 (decL_ne z)
  have h4 : s.size = (decL z).length := by rw [← e]; simp [decS, ByteArray.size]
  omega
theorem undV_back {s : ByteArray} {z : Int} (h0 : -9223372036854775808 ≤ z) (h1 : z ≤ 9223372036854775807) (h2 : ∀ y : Int, -9223372036854775808 ≤ y → y ≤ 9223372036854775807 → decS y = s → z = y) : undV s = if decS z = s then some z else none := by
  split
  · exact undV_of h0 h1 (by assumption)
  · refine undV_none fun y hy0 hy1 e => ?_
    obtain rfl := h2 y hy0 hy1 e
    contradiction
end Go.Proofs.YtfhaoamlagnpjaaDoor

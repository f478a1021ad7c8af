/-
  Several texts in one: CONTRACTS of package sha: a Hash is made, written, summed. | CONTRACTS of package sha: a Hash is written, and summed. | CONTRACTS of package sha: the sum of a text, whole. | CONTRACTS of the reference of package sha: the words of a block. | CONTRACT of the reference of package sha: one block.
-/
import Derived.Test.YtfhaoamlagnpjaaDoorRows
import Derived.StillTailTactics
import Derived.Deep.RegionHeld3
import Derived.Test.YtfhaoamlagnpjaaDoorGNoteAdd1
import Derived.Test.YtfhaoamlagnpjaaDoorGNoteAdd2
import Derived.Test.YtfhaoamlagnpjaaDoorGNoteAdd4
set_option linter.unusedVariables false
set_option linter.unusedSimpArgs false
namespace Go.Proofs.YtfhaoamlagnpjaaDoor
open Go.RowKit Go.Lib
def shaInit : List Int := [1779033703, 3144134277, 1013904242, 2773480762, 1359893119, 2600822924, 528734635, 1541459225]
theorem shaInit_U32 : U32 shaInit := by
  intro x hx
  simp only [shaInit, List.mem_cons, List.not_mem_nil, or_false] at hx
  rcases hx with rfl | rfl | rfl | rfl | rfl | rfl | rfl | rfl <;> decide
def BeginOk (w : World) : Prop := ∀ i, i < 8 → w.cell? ⟨1, i, none⟩ = some (.int .u32 (shaInit.getD i 0))
theorem BeginOk.lt {w : World} (h : BeginOk w) : 1 < w.heap.size := World.block_lt_of_cell? w _ (h 0 (by omega))
theorem BeginOk.below {B : Nat} {w w' : World} (h : BeginOk w) (hb : Below B w w') (hB : 1 < B) : BeginOk w' :=
  fun i hi => (hb.cell (p := ⟨1, i, none⟩) hB).trans (h i hi)
/-- A Hash in block g that has taken m. -/
def hashCells (v : List Int) (rest : List UInt8) (n : Nat) : Array Value := (st8 v ++ (byteCells rest ++ [Value.int .i64 n])).toArray
def IsHash (w : World) (g : Nat) (m : List UInt8) : Prop :=
  ∃ rest : List UInt8, rest.length = 64 ∧ rest.take (m.length % 64) = m.drop (64 * (m.length / 64)) ∧ Blk w g 154 (hashCells (stN shaInit (m.length / 64) m) rest m.length)
theorem hash_n (v : List Int) (rest : List UInt8) (n : Nat) (hv : v.length = 8) (hr : rest.length = 64) : (hashCells v rest n)[72]? = some (.int .i64 n) := by
  simp [hashCells, st8, List.getElem?_append, hv, hr, byteCells]
theorem hash_rest (v : List Int) (rest : List UInt8) (n : Nat) (hv : v.length = 8) (hr : rest.length = 64) (j : Nat) (hj : j < 64) : (hashCells v rest n)[8 + j]? = some (.int .u8 ((rest[j]'(by omega)).toNat : Int)) := by
  simp [hashCells, st8, List.getElem?_append, hv, hr, byteCells, hj]
theorem hash_size (v : List Int) (rest : List UInt8) (n : Nat) (hv : v.length = 8) (hr : rest.length = 64) : (hashCells v rest n).size = 73 := by
  simp [hashCells, st8, hv, hr, byteCells]
set_option maxRecDepth 100000 in
set_option maxHeartbeats 400000 in
theorem hash_zero (w : World) : (zeroValue 154).run Tryd.prog w = .ok (.agg #[.int .u32 0, .int .u32 0, .int .u32 0, .int .u32 0, .int .u32 0, .int .u32 0, .int .u32 0, .int .u32 0, .int .u8 0, .int .u8 0, .int .u8 0, .int .u8 0, .int .u8 0, .int .u8 0, .int .u8 0, .int .u8 0, .int .u8 0, .int .u8 0, .int .u8 0, .int .u8 0, .int .u8 0, .int .u8 0, .int .u8 0, .int .u8 0, .int .u8 0, .int .u8 0, .int .u8 0, .int .u8 0, .int .u8 0, .int .u8 0, .int .u8 0, .int .u8 0, .int .u8 0, .int .u8 0, .int .u8 0, .int .u8 0, .int .u8 0, .int .u8 0, .int .u8 0, .int .u8 0, .int .u8 0, .int .u8 0, .int .u8 0, .int .u8 0, .int .u8 0, .int .u8 0, .int .u8 0, .int .u8 0, .int .u8 0, .int .u8 0, .int .u8 0, .int .u8 0, .int .u8 0, .int .u8 0, .int .u8 0, .int .u8 0, .int .u8 0, .int .u8 0, .int .u8 0, .int .u8 0, .int .u8 0, .int .u8 0, .int .u8 0, .int .u8 0, .int .u8 0, .int .u8 0, .int .u8 0, .int .u8 0, .int .u8 0, .int .u8 0, .int .u8 0, .int .u8 0, .int .i64 0]) w := by kernel_rfl
set_option maxRecDepth 100000 in
set_option maxHeartbeats 400000 in
theorem new_any (w : World) (hbg : BeginOk w) : Calls Tryd.prog 99 #[] w fun e w' => e = .returned (.pointer (some ⟨w.heap.size, 0, none⟩)) ∧ IsHash w' w.heap.size [] ∧ Below w.heap.size w w' := by
  have d0 := hbg 0 (by omega)
  have d1 := hbg 1 (by omega)
  have d2 := hbg 2 (by omega)
  have d3 := hbg 3 (by omega)
  have d4 := hbg 4 (by omega)
  have d5 := hbg 5 (by omega)
  have d6 := hbg 6 (by omega)
  have d7 := hbg 7 (by omega)
  clear hbg
  simp [shaInit] at d0 d1 d2 d3 d4 d5 d6 d7
  have hz := hash_zero w
  go_enter Tryd.func99, Tryd.ntmps99
  go_wp2
  go_ret
  refine ⟨rfl, ⟨List.replicate 64 0, by simp, by simp, ?_⟩, (Below.refl _ _).alloc (Nat.le_refl _) _⟩
  have h : ∀ X, X = hashCells shaInit (List.replicate 64 0) 0 → Blk (w.alloc (.cells X 154)) w.heap.size 154 (hashCells shaInit (List.replicate 64 0) 0) := by
    rintro X rfl
    exact Blk.new _ _ _
  exact h _ (by kernel_rfl)
set_option maxRecDepth 100000 in
set_option maxHeartbeats 400000 in
theorem held_any (g : Nat) (m : List UInt8) (w : World) (hm : m.length ≤ 1125899906842624) (hH : IsHash w g m) : Calls Tryd.prog 113 #[.pointer (some ⟨g, 0, none⟩)] w fun e w' => e = .returned (.int .i64 ((m.length % 64 : Nat) : Int)) ∧ w = w' := by
  obtain ⟨rest, hr, _, hB⟩ := hH
  have c := (hB.cell 72).trans (hash_n _ _ _ (stN_length rfl _ _) hr)
  clear hB hr
  go_enter Tryd.func113, Tryd.ntmps113
  go_wp2
  go_ret
  exact ⟨ret_int (by omega), rfl⟩
set_option maxRecDepth 100000 in
set_option maxHeartbeats 400000 in
theorem copy_any (g : Nat) (m : List UInt8) (w : World) (hH : IsHash w g m) : Calls Tryd.prog 116 #[.pointer (some ⟨g, 0, none⟩)] w fun e w' => e = .returned (.pointer (some ⟨w.heap.size, 0, none⟩)) ∧ IsHash w' w.heap.size m ∧ Below w.heap.size w w' := by
  obtain ⟨rest, hr, ht, hB⟩ := hH
  have hsz := hash_size (stN shaInit (m.length / 64) m) rest m.length (stN_length rfl _ _) hr
  have hone : (hashCells (stN shaInit (m.length / 64) m) rest m.length).all (·.oneCell') = true := by
    rw [Array.all_eq_true]
    intro i hi
    have hm := Array.getElem_mem (xs := hashCells (stN shaInit (m.length / 64) m) rest m.length) hi
    generalize (hashCells (stN shaInit (m.length / 64) m) rest m.length)[i] = X at hm
    simp only [hashCells, st8, byteCells, List.mem_toArray, List.mem_append, List.mem_map, List.mem_cons, List.not_mem_nil, or_false] at hm
    rcases hm with ⟨x, _, h⟩ | ⟨x, _, h⟩ | h
    · rw [← h]; rfl
    · rw [← h]; rfl
    · rw [h]; rfl
  have glt := hB.lt
  obtain ⟨C, HC⟩ : ∃ C, Hid (hashCells (stN shaInit (m.length / 64) m) rest m.length = C) := ⟨_, rfl⟩
  rw [HC.out] at hB hsz hone
  have ci : (Tryd.prog.info? 154).map (·.size) = some 73 := by kernel_rfl
  have hi : (Tryd.prog.info? 154).map (·.size) = some C.size := ci.trans (by rw [hsz])
  have Hi := hide hi; clear ci hi
  have Hsz := Lib.hid hsz; clear hsz
  have HB := hide hB; clear hB
  have Hrt := hide (And.intro hr ht); clear hr ht
  have hz := hash_zero w
  go_enter Tryd.func116, Tryd.ntmps116
  go_wp2_with (first | (refine wpList_load_row rfl 154 (.tmp 5) rfl g rfl 154 C (0, 0) _ (unhide HB) Tryd.underlying154 rfl (unhide Hi) ?_) | (refine wpList_store_row rfl 154 (.tmp 3) (.tmp 6) rfl w.heap.size C rfl rfl 154 _ (heap_alloc_new w _) (unhide Hi) (by rw [Hsz.out]; kernel_rfl) hone ?_))
  go_ret
  obtain ⟨hr, ht⟩ := unhide Hrt
  refine ⟨rfl, ⟨rest, hr, ht, ?_⟩, ((Below.refl _ _).alloc (Nat.le_refl _) _).setRow (Nat.le_refl _) _⟩
  rw [HC.out]
  exact setRow_heap _ _ _ _ _ _ (heap_alloc_new w _)
end Go.Proofs.YtfhaoamlagnpjaaDoor

set_option linter.unusedVariables false
set_option linter.unusedSimpArgs false
namespace Go.Proofs.YtfhaoamlagnpjaaDoor
open Go.RowKit Go.Lib
theorem absorb_A (v : List Int) (m p : List UInt8) (h : m.length % 64 = 0) :
    stN (stN v (m.length / 64) m) (p.length / 64) p = stN v ((m ++ p).length / 64) (m ++ p) ∧ (m ++ p).length % 64 = p.length % 64 ∧ (m ++ p).drop (64 * ((m ++ p).length / 64)) = p.drop (64 * (p.length / 64)) := by
  have hm : m.length = 64 * (m.length / 64) := by omega
  have hl : (m ++ p).length / 64 = m.length / 64 + p.length / 64 := by simp; omega
  refine ⟨?_, by simp; omega, ?_⟩
  · rw [hl, stN_add, stN_append v _ m p (by omega), List.drop_append_of_le_length (by omega), List.drop_eq_nil_of_le (by omega), List.nil_append]
  · rw [hl, List.drop_append, List.drop_eq_nil_of_le (by omega), List.nil_append]
    congr 1
    omega
theorem absorb_B (v : List Int) (m p : List UInt8) (r : Nat) (hr : m.length % 64 = r) (h0 : 0 < r) (hp : 64 - r ≤ p.length) :
    stN (comp (stN v (m.length / 64) m) (m.drop (64 * (m.length / 64)) ++ p.take (64 - r))) ((p.length - (64 - r)) / 64) (p.drop (64 - r)) = stN v ((m ++ p).length / 64) (m ++ p) ∧
      (m ++ p).length % 64 = (p.length - (64 - r)) % 64 ∧ (m ++ p).drop (64 * ((m ++ p).length / 64)) = (p.drop (64 - r)).drop (64 * ((p.length - (64 - r)) / 64)) := by
  have hl : (m ++ p).length / 64 = m.length / 64 + (1 + (p.length - (64 - r)) / 64) := by simp; omega
  have hd : (m ++ p).drop (64 * (m.length / 64)) = m.drop (64 * (m.length / 64)) ++ p := List.drop_append_of_le_length (by omega)
  have hdl : (m.drop (64 * (m.length / 64))).length = r := by simp; omega
  refine ⟨?_, by simp; omega, ?_⟩
  · rw [hl, stN_add, stN_append v _ m p (by omega), hd, stN_add]
    have h1 : stN (stN v (m.length / 64) m) 1 (m.drop (64 * (m.length / 64)) ++ p) = comp (stN v (m.length / 64) m) (m.drop (64 * (m.length / 64)) ++ p.take (64 - r)) := by
      show comp _ ((m.drop (64 * (m.length / 64)) ++ p).take 64) = _
      rw [List.take_append, hdl, List.take_of_length_le (by omega)]
    rw [h1]
    have h2 : (m.drop (64 * (m.length / 64)) ++ p).drop (64 * 1) = p.drop (64 - r) := by
      rw [List.drop_append, hdl, List.drop_eq_nil_of_le (by omega), List.nil_append]
    rw [h2]
  · rw [hl, show 64 * (m.length / 64 + (1 + (p.length - (64 - r)) / 64)) = 64 * (m.length / 64) + (64 + 64 * ((p.length - (64 - r)) / 64)) from by omega, ← List.drop_drop, hd, ← List.drop_drop]
    have h2 : (m.drop (64 * (m.length / 64)) ++ p).drop 64 = p.drop (64 - r) := by
      rw [List.drop_append, hdl, List.drop_eq_nil_of_le (by omega), List.nil_append]
    rw [h2]
/-- The cells of a Hash behind a copy into its rest. -/
theorem hash_copy (v : List Int) (rest : List UInt8) (n : Nat) (hv : v.length = 8) (hr : rest.length = 64) (o : Nat) (x : List UInt8) (hx : o + x.length ≤ 64) :
    ((hashCells v rest n).toList.take (8 + o) ++ byteCells x ++ (hashCells v rest n).toList.drop (8 + o + x.length)).toArray = hashCells v (rest.take o ++ x ++ rest.drop (o + x.length)) n := by
  have h8 : (st8 v).length = 8 := by simp [st8, hv]
  have hb : (byteCells rest).length = 64 := by rw [byteCells_length, hr]
  apply Array.ext'
  simp only [hashCells]
  rw [List.take_append, h8, List.take_of_length_le (by omega), show 8 + o - 8 = o from by omega, List.take_append_of_le_length (by omega)]
  rw [List.drop_append, h8, List.drop_eq_nil_of_le (by omega), List.nil_append, show 8 + o + x.length - 8 = o + x.length from by omega, List.drop_append_of_le_length (by omega)]
  simp only [byteCells, List.map_append, List.map_take, List.map_drop, List.append_assoc]
theorem run_mkf (fn : Fn) (first cap : Array Value) (w : World) : (Instr.makeFunc fn first cap).run Tryd.prog w = .ok (.func fn first cap) w := rfl
theorem cells_fit (v : List Int) (rest : List UInt8) (n k : Nat) (hv : v.length = 8) (hr : rest.length = 64) : 8 + min k 64 ≤ (st8 v ++ (byteCells rest ++ [Value.int .i64 n])).toArray.size := by
  simp [st8, hv, hr, byteCells]
  omega
/-- The rest behind blocks and a copy: what is left of p, and what was behind it. -/
def tailRest (p : ByteArray) (rest : List UInt8) : List UInt8 := p.data.toList.drop (64 * (p.size / 64)) ++ rest.drop (p.size % 64)
theorem tail_len (p : ByteArray) (rest : List UInt8) (hr : rest.length = 64) : (tailRest p rest).length = 64 := by simp [tailRest, hr]; omega
theorem tail_take (p : ByteArray) (rest : List UInt8) : (tailRest p rest).take (p.size % 64) = p.data.toList.drop (64 * (p.size / 64)) := by
  have hl : (p.data.toList.drop (64 * (p.size / 64))).length = p.size % 64 := by simp; omega
  unfold tailRest
  rw [List.take_append_of_le_length (by omega), List.take_of_length_le (by omega)]
theorem hash_setn (v : List Int) (rest : List UInt8) (n : Nat) (hv : v.length = 8) (hr : rest.length = 64) (n' : Nat) {x : Int} (hx : x = (n' : Int)) : (hashCells v rest n).setIfInBounds 72 (.int .i64 x) = hashCells v rest n' := by
  subst hx
  apply Array.ext'
  have h8 : (st8 v).length = 8 := by simp [st8, hv]
  have hb : (byteCells rest).length = 64 := by rw [byteCells_length, hr]
  simp only [hashCells, List.setIfInBounds_toArray]
  rw [List.set_append_right _ _ (by omega), h8, List.set_append_right _ _ (by omega), hb]
  rfl
theorem tail_in {w : World} {g : Nat} {T : TypeId} {v : List Int} {rest : List UInt8} {n : Nat} {p : ByteArray} (hv : v.length = 8) (hr : rest.length = 64)
    (h : Blk w g T ((st8 v ++ (byteCells rest ++ [Value.int .i64 n])).toArray.toList.take 8 ++ byteCells ((p.extract (64 * (p.size / 64)) p.size).data.toList.take (min (p.extract (64 * (p.size / 64)) p.size).size 64)) ++ (st8 v ++ (byteCells rest ++ [Value.int .i64 n])).toArray.toList.drop (8 + min (p.extract (64 * (p.size / 64)) p.size).size 64)).toArray) :
    Blk w g T (hashCells v (tailRest p rest) n) := by
  have hs : (p.extract (64 * (p.size / 64)) p.size).size = p.size % 64 := by simp; omega
  have hm : min (p.extract (64 * (p.size / 64)) p.size).size 64 = p.size % 64 := by omega
  have hl : ((p.extract (64 * (p.size / 64)) p.size).data.toList).length = p.size % 64 := by simpa using hs
  have hx : (p.extract (64 * (p.size / 64)) p.size).data.toList = p.data.toList.drop (64 * (p.size / 64)) := by
    rw [extract_list _ _ _ (Nat.le_refl _), List.take_of_length_le (by simp)]
  have hx2 : (p.extract (64 * (p.size / 64)) p.size).data.toList.take (p.size % 64) = (p.extract (64 * (p.size / 64)) p.size).data.toList := List.take_of_length_le (by omega)
  rw [hm, hx2] at h
  have hc := hash_copy v rest n hv hr 0 ((p.extract (64 * (p.size / 64)) p.size).data.toList) (by omega)
  rw [hl] at hc
  have e : (List.take 0 rest ++ (p.extract (64 * (p.size / 64)) p.size).data.toList ++ List.drop (0 + p.size % 64) rest) = tailRest p rest := by
    rw [hx]; simp [tailRest]
  rw [e] at hc
  rw [← hc]
  exact h
theorem TabOk.drew {w : World} (h : TabOk w) : TabOk w.drew := h
theorem step_copy_str {ops : Array Oper} {o : Oper} {a : Act} {K : Act → World → Prop} {Q : Exit → Act → World → Prop} {E : Prop} {w : World} (hgd : o.guard = none) (d s : Operand)
    (ho : o.op = .call { callee := .builtin .copy, args := #[d, s], argTypes := #[75, 9] }) {T : TypeId} {cur : Array Value} {g : Nat} (hB : Blk w g T cur) (off dLen dCap : Nat) (st : ByteArray) (hd : a.eval d = .slice (some ⟨g, off, none⟩) dLen dCap) (hs : a.eval s = .string st)
    (n : Nat) (hn : n = min st.size dLen) (hfit : off + n ≤ cur.size)
    (h : ∀ w', Blk w' g T (cur.toList.take off ++ byteCells (st.data.toList.take n) ++ cur.toList.drop (off + n)).toArray → w.grownBy w' (some g) → w'.heap.size = w.heap.size → K (a.put o.dst (.int .i64 n)) w') :
    if Region.wanted o (yielded ops a.tmps) = true then Oper.wp Tryd.prog o a w K Q else E := by
  have hw : Region.wanted o (yielded ops a.tmps) = true := by simp [Region.wanted, hgd]
  rw [if_pos hw]
  have hr := run_copy_str w o.type g off dLen dCap st T cur hB n hn hfit
  unfold Oper.wp execOp
  simp only [ho, resolve, invoke, builtin, Sem.run_bind, Sem.run_pure, Result.andThen_ok, List.map_toArray, List.map_cons, List.map_nil, hd, hs, hr]
  exact h _ (setRow_heap w g _ _ _ _ hB) ⟨rfl, rfl, rfl, by simp, fun k _ hk => setRow_other w g k _ (fun e => hk (by rw [e]))⟩ (by simp)
set_option maxRecDepth 100000 in
set_option maxHeartbeats 1000000 in
theorem write_A (g : Nat) (m : List UInt8) (p : ByteArray) (w : World) (hm : m.length ≤ 1125899906842624) (hp : p.size ≤ 1125899906842624) (h0 : m.length % 64 = 0) (htab : TabOk w) (hg : 5 < g) (hH : IsHash w g m) :
    Calls Tryd.prog 100 #[.pointer (some ⟨g, 0, none⟩), .string p] w fun e w' => e = .returned (.int .i64 p.size) ∧ IsHash w' g (m ++ p.data.toList) ∧ w.grownBy w' (some g) := by
  have hh := held_any g m w hm hH
  rw [h0] at hh
  have Hh := hide hh; clear hh
  obtain ⟨rest, hr, ht, hB⟩ := hH
  have hb := blocks_any 154 g (stN shaInit (m.length / 64) m) (byteCells rest ++ [Value.int .i64 m.length]) p w.drew (by simp only [maxLen]; omega) (stN_length rfl _ _) (stN_U32 shaInit_U32 _ _) htab.drew hg hB.drew
  have Hb := hide hb
  have Hx := hide (And.intro hr (And.intro ht hB)); clear hr ht hB hb htab
  have hmf := run_mkf
  go_enter Tryd.func100, Tryd.ntmps100
  go_wp2_with fail
  refine (unhide Hh).mono ?_
  rintro e w1 ⟨rfl, rfl⟩
  go_wp2_with fail
  go_region_held3 (fun _ => True) (trivial) (first | (go_at_call 115; refine (unhide Hb).mono ?_; rintro e w1 ⟨rfl, hgr1, hB1⟩) | (refine step_copy_str rfl (.tmp 40) (.tmp 46) rfl hB1 8 64 64 _ rfl rfl _ rfl (cells_fit _ _ _ _ (stN_length (stN_length rfl _ _) _ _) (unhide Hx).1) ?_; intro w2 hB2 hgr2 hz2))
  have hB3 := tail_in (stN_length (stN_length rfl _ _) _ _) (unhide Hx).1 hB2
  have c72 := (hB3.cell 72).trans (hash_n _ _ _ (stN_length (stN_length rfl _ _) _ _) (tail_len p rest (unhide Hx).1))
  have f72 := hB3.frozen 72
  have Hy := hide (And.intro hB3 (And.intro hgr1 hgr2)); clear hB3 hB2 hB1 hgr1 hgr2 hz2 hmf
  go_wp2
  go_ret
  obtain ⟨hB3, hgr1, hgr2⟩ := unhide Hy
  obtain ⟨hr, ht, hB⟩ := unhide Hx
  obtain ⟨e1, e2, e3⟩ := absorb_A shaInit m p.data.toList h0
  have hpl : p.data.toList.length = p.size := by simp
  have hgr : w.grownBy w2 (some g) := grown_trans' (grown_trans' (only_drew (World.grownBy.refl w _)) hgr1) hgr2
  refine ⟨rfl, ⟨tailRest p rest, tail_len p rest hr, ?_, ?_⟩, only_setCell (p := ⟨g, 72, none⟩) hgr (.inl rfl) _⟩
  · rw [e2, e3, hpl]
    exact tail_take p rest
  · have h := hB3.set_ 72 (.int .i64 ((m.length : Int) + p.size))
    rw [hash_setn _ _ _ (stN_length (stN_length rfl _ _) _ _) (tail_len p rest hr) (m.length + p.size) (by simp)] at h
    have hl : (m ++ p.data.toList).length = m.length + p.size := by simp
    rw [← e1, hl, hpl]
    exact h
theorem run_slice_rest (g o : Nat) (r : Nat) (h : r < 64) (w : World) :
    (Instr.sliceAt 135 (.pointer (some ⟨g, o, none⟩)) (some (.int .i64 (r : Int))) none none).run Tryd.prog w = .ok (.slice (some ⟨g, o + r, none⟩) (64 - r) (64 - r)) w := by
  have ht : Tryd.prog.underlying 135 = some (.array (Tryd.prog.arrayLen 135) (Tryd.prog.elem 135)) := by kernel_rfl
  have hl : Tryd.prog.arrayLen 135 = 64 := by kernel_rfl
  have hs : (sizeOf (Tryd.prog.elem 135)).run Tryd.prog w = .ok 1 w := by kernel_rfl
  rw [run_sliceAt_array_l w _ _ ht .i64 (r : Int) (by omega) (by rw [hl]; omega), hs, hl]
  simp only [Result.andThen, slicedAt, Addr.add]
  rw [if_neg (by omega)]
  simp
theorem conv_hash {w : World} {g : Nat} {T : TypeId} {v : List Int} {rest : List UInt8} {n : Nat} (hv : v.length = 8) (hr : rest.length = 64) (hB : Blk w g T (hashCells v rest n)) :
    (convert 75 9 (.slice (some ⟨g, 8, none⟩) 64 64)).run Tryd.prog w = .ok (.string ⟨rest.toArray⟩) w := by
  have h := Go.run_convert_bytes_back w 75 9 5 ⟨g, 8, none⟩ 64 rest Tryd.underlying75 Tryd.underlying5 Tryd.underlying9 (fun j hj => by
    have hadd : (⟨g, 8, none⟩ : Addr).add j = ⟨g, 8 + j, none⟩ := by unfold Addr.add; split <;> simp_all
    rw [hadd, hB.cell, hash_rest v rest n hv hr j (by omega)])
  rw [hr] at h
  exact h
set_option maxRecDepth 100000 in
set_option maxHeartbeats 1000000 in
theorem write_B (g : Nat) (m : List UInt8) (p : ByteArray) (w : World) (r : Nat) (hm : m.length ≤ 1125899906842624) (hp : p.size ≤ 1125899906842624) (h0 : m.length % 64 = r) (hr0 : 0 < r) (hpr : 64 - r ≤ p.size) (htab : TabOk w) (hg : 5 < g) (hH : IsHash w g m) :
    Calls Tryd.prog 100 #[.pointer (some ⟨g, 0, none⟩), .string p] w fun e w' => e = .returned (.int .i64 p.size) ∧ IsHash w' g (m ++ p.data.toList) ∧ w.grownBy w' (some g) := by
  have hh := held_any g m w hm hH
  rw [h0] at hh
  have Hh := hide hh; clear hh
  have hr64 : r < 64 := by omega
  obtain ⟨rest, hr, ht, hB⟩ := hH
  rw [h0] at ht
  have Hx := hide (And.intro h0 (And.intro hr (And.intro ht (And.intro htab hB)))); clear h0 hr ht hB htab
  have hmf := run_mkf
  have hsl := run_slice_rest g 8 r hr64
  go_enter Tryd.func100, Tryd.ntmps100
  go_wp2_with fail
  refine (unhide Hh).mono ?_
  rintro e w1 ⟨rfl, rfl⟩
  go_wp2_with (refine wpList_copy_str w rfl (.tmp 18) (.tmp 19) rfl (unhide Hx).2.2.2.2 (8 + r) (64 - r) (64 - r) p rfl rfl (64 - r) (by omega) (by rw [hash_size _ _ _ (stN_length rfl _ _) (unhide Hx).2.1]; omega) ?_; intro w2 hB2 hgr2 hz2)
  have hc := hash_copy (stN shaInit (m.length / 64) m) rest m.length (stN_length rfl _ _) (unhide Hx).2.1 r (p.data.toList.take (64 - r)) (by simp; omega)
  have hpl : (p.data.toList.take (64 - r)).length = 64 - r := by simp; omega
  rw [hpl] at hc
  rw [hc] at hB2
  clear hc
  have hrl : (rest.take r ++ p.data.toList.take (64 - r) ++ rest.drop (r + (64 - r))).length = 64 := by simp [(unhide Hx).2.1]; omega
  obtain ⟨rest1, Hr1⟩ : ∃ x, Hid (rest.take r ++ p.data.toList.take (64 - r) ++ rest.drop (r + (64 - r)) = x) := ⟨_, rfl⟩
  rw [Hr1.out] at hB2 hrl
  have hcv := conv_hash (stN_length rfl _ _) hrl hB2
  have hcvd := conv_hash (stN_length rfl _ _) hrl hB2.drew
  have ht := take_any 154 g (stN shaInit (m.length / 64) m) (byteCells rest1 ++ [Value.int .i64 m.length]) ⟨rest1.toArray⟩ w2.drew (by simp [ByteArray.size, hrl]) (stN_length rfl _ _) (stN_U32 shaInit_U32 _ _) (TabOk.grown (unhide Hx).2.2.2.1 hgr2 (Nat.ne_of_lt hg)).drew hg hB2.drew
  have Ht := hide ht; clear ht
  have Hz := hide (And.intro hrl (And.intro hB2 hgr2)); clear hrl hB2 hgr2
  go_region_held3 (fun W => (convert 75 9 (.slice (some ⟨g, 8, none⟩) 64 64)).run Tryd.prog W = .ok (.string ⟨rest1.toArray⟩) W) (first | assumption) (first | (go_at_call 114; refine (unhide Ht).mono ?_; rintro e w3 ⟨rfl, hgr3, hB3⟩; have hcv3 := conv_hash (v := comp (stN shaInit (m.length / 64) m) rest1) (comp_length (stN_length rfl _ _) _) (unhide Hz).1 hB3))
  obtain ⟨hrl, hB2, hgr2⟩ := unhide Hz
  have hb := blocks_any 154 g (comp (stN shaInit (m.length / 64) m) rest1) (byteCells rest1 ++ [Value.int .i64 m.length]) (p.extract (64 - r) p.size) w3.drew (by simp only [maxLen]; simp; omega) (comp_length (stN_length rfl _ _) _) (comp_U32 _ _) (TabOk.grown (TabOk.grown (unhide Hx).2.2.2.1 hgr2 (Nat.ne_of_lt hg)).drew hgr3 (Nat.ne_of_lt hg)).drew hg hB3.drew
  have Hb := hide hb; clear hb
  have Hz := hide (And.intro hrl (And.intro hB3 (grown_trans' (only_drew hgr2) hgr3))); clear hrl hB2 hgr2 hB3 hgr3 hcv hcvd hcv3 Ht
  obtain ⟨v1, Hv1⟩ : ∃ x, Hid (comp (stN shaInit (m.length / 64) m) rest1 = x) := ⟨_, rfl⟩
  have hv1 : v1.length = 8 := by rw [← Hv1.out]; exact comp_length (stN_length rfl _ _) _
  obtain ⟨p1, Hp1⟩ : ∃ x, Hid (p.extract (64 - r) p.size = x) := ⟨_, rfl⟩
  rw [Hv1.out, Hp1.out] at Hb
  rw [Hv1.out] at Hz
  rw [Hp1.out]
  go_wp2_with fail
  go_region_held3 (fun _ => True) (trivial) (first | (go_at_call 115; refine (unhide Hb).mono ?_; rintro e w4 ⟨rfl, hgr1, hB1⟩) | (refine step_copy_str rfl (.tmp 40) (.tmp 46) rfl hB1 8 64 64 _ rfl rfl _ rfl (cells_fit _ _ _ _ (stN_length hv1 _ _) (unhide Hz).1) ?_; intro w5 hB2 hgr2 hz2))
  have hB3 := tail_in (stN_length hv1 _ _) (unhide Hz).1 hB2
  have c72 := (hB3.cell 72).trans (hash_n _ _ _ (stN_length hv1 _ _) (tail_len p1 rest1 (unhide Hz).1))
  have f72 := hB3.frozen 72
  have Hy := hide (And.intro hB3 (And.intro hgr1 hgr2)); clear hB3 hB2 hB1 hgr1 hgr2 hz2 hmf
  go_wp2
  go_ret
  obtain ⟨hB3, hgr1, hgr2⟩ := unhide Hy
  obtain ⟨h0, hr, ht, htab, hB⟩ := unhide Hx
  obtain ⟨hrl, -, hgr0⟩ := unhide Hz
  obtain ⟨e1, e2, e3⟩ := absorb_B shaInit m p.data.toList r h0 hr0 (by simpa using hpr)
  have hgr : w.grownBy w5 (some g) := grown_trans' (grown_trans' (only_drew hgr0) hgr1) hgr2
  have hp1s : p1.size = p.size - (64 - r) := by rw [← Hp1.out]; simp
  have hp1l : p1.data.toList = p.data.toList.drop (64 - r) := by rw [← Hp1.out, extract_list _ _ _ (Nat.le_refl _), List.take_of_length_le (by simp)]
  have hr1 : rest1 = m.drop (64 * (m.length / 64)) ++ p.data.toList.take (64 - r) := by
    rw [← Hr1.out, ht, show r + (64 - r) = rest.length from by omega, List.drop_length, List.append_nil]
  refine ⟨rfl, ⟨tailRest p1 rest1, tail_len p1 rest1 hrl, ?_, ?_⟩, only_setCell (p := ⟨g, 72, none⟩) hgr (.inl rfl) _⟩
  · rw [e2, e3, show p.data.toList.length = p.size from by simp, ← hp1s, ← hp1l]
    exact tail_take p1 rest1
  · have h := hB3.set_ 72 (.int .i64 ((m.length : Int) + p.size))
    rw [hash_setn _ _ _ (stN_length hv1 _ _) (tail_len p1 rest1 hrl) (m.length + p.size) (by simp)] at h
    have hl : (m ++ p.data.toList).length = m.length + p.size := by simp
    rw [← e1, hl, ← hr1, Hv1.out, show p.data.toList.length = p.size from by simp, ← hp1s, ← hp1l]
    exact h
end Go.Proofs.YtfhaoamlagnpjaaDoor

set_option linter.unusedVariables false
set_option linter.unusedSimpArgs false
namespace Go.Proofs.YtfhaoamlagnpjaaDoor
open Go.RowKit Go.Lib
/-- SHA-256 of a text, in plain lists. -/
def shaL (m : List UInt8) : List UInt8 := out8 (stN shaInit ((m ++ padB m.length).length / 64) (m ++ padB m.length))
theorem shaL_length (m : List UInt8) : (shaL m).length = 32 := by
  rw [shaL, out8_length, stN_length rfl]
def shaB (s : ByteArray) : ByteArray := ⟨(shaL s.data.toList).toArray⟩
theorem shaB_size (s : ByteArray) : (shaB s).size = 32 := by
  have := shaL_length s.data.toList
  simpa [shaB, ByteArray.size] using this
theorem write_any (g : Nat) (m : List UInt8) (p : ByteArray) (w : World) (hm : m.length ≤ 1125899906842624) (hp : p.size ≤ 1125899906842624) (h : m.length % 64 = 0 ∨ 64 - m.length % 64 ≤ p.size) (htab : TabOk w) (hg : 5 < g) (hH : IsHash w g m) :
    Calls Tryd.prog 100 #[.pointer (some ⟨g, 0, none⟩), .string p] w fun e w' => e = .returned (.int .i64 p.size) ∧ IsHash w' g (m ++ p.data.toList) ∧ w.grownBy w' (some g) := by
  by_cases h0 : m.length % 64 = 0
  · exact write_A g m p w hm hp h0 htab hg hH
  · exact write_B g m p w (m.length % 64) hm hp rfl (by omega) (h.resolve_left h0) htab hg hH
theorem IsHash.below {B : Nat} {w w' : World} {g : Nat} {m : List UInt8} (h : IsHash w g m) (hb : Below B w w') (hg : g < B) : IsHash w' g m := by
  obtain ⟨rest, h1, h2, h3⟩ := h
  exact ⟨rest, h1, h2, h3.below hb hg⟩
theorem IsHash.drew {w : World} {g : Nat} {m : List UInt8} (h : IsHash w g m) : IsHash w.drew g m := h
theorem IsHash.lt {w : World} {g : Nat} {m : List UInt8} (h : IsHash w g m) : g < w.heap.size := by
  obtain ⟨rest, h1, h2, h3⟩ := h
  exact h3.lt
set_option maxRecDepth 100000 in
set_option maxHeartbeats 1000000 in
theorem hsum_any (g : Nat) (m : List UInt8) (w : World) (hm : m.length ≤ 562949953421312) (htab : TabOk w) (hH : IsHash w g m) :
    Calls Tryd.prog 101 #[.pointer (some ⟨g, 0, none⟩)] w fun e w' => e = .returned (.string ⟨(shaL m).toArray⟩) ∧ Below w.heap.size w w' := by
  have hc := copy_any g m w hH
  have HT := hide (And.intro htab hH); clear htab hH
  go_enter Tryd.func101, Tryd.ntmps101
  go_wp2_with fail
  refine hc.mono ?_
  rintro e w1 ⟨rfl, hH1, hb1⟩
  have hn : w1.cell? ⟨g, 72, none⟩ = some (.int .i64 (m.length : Nat)) := by
    obtain ⟨htab, rest, hr, ht, hB⟩ := unhide HT
    exact ((hB.below hb1 hB.lt).cell 72).trans (hash_n _ _ _ (stN_length rfl _ _) hr)
  have hp := padding_any m.length w1 (by omega)
  have H1 := hide (And.intro hH1 hb1); clear hH1 hb1 hc
  go_wp2_with fail
  refine hp.mono ?_
  rintro e w2 ⟨rfl, hb2⟩
  have hpad : (⟨(padB m.length).toArray⟩ : ByteArray).size = (padB m.length).length := by simp [ByteArray.size]
  have htab2 : TabOk w2 := ((unhide HT).1.below (unhide H1).2 (unhide HT).1.lt).below hb2 (Nat.lt_of_lt_of_le (unhide HT).1.lt (unhide H1).2.size)
  have hH2 : IsHash w2 w.heap.size m := (unhide H1).1.below hb2 (unhide H1).1.lt
  have hw := write_any w.heap.size m ⟨(padB m.length).toArray⟩ w2 (by omega) (by rw [hpad, padB_length]; omega) (by rw [hpad, padB_length]; omega) htab2 (unhide HT).1.lt hH2
  have H2 := hide (And.intro hb2 (And.intro htab2 hH2)); clear hb2 htab2 hH2 hp hn
  go_wp2_with fail
  refine hw.mono ?_
  rintro e w3 ⟨rfl, hH3, hg3⟩
  obtain ⟨rest, hr, ht, hB⟩ := hH3
  have htx := text_any 154 w.heap.size (stN shaInit ((m ++ padB m.length).length / 64) (m ++ padB m.length)) (byteCells rest ++ [Value.int .i64 (m ++ padB m.length).length]) w3 (stN_length rfl _ _) (stN_U32 shaInit_U32 _ _) hB
  have H3 := hide (And.intro hB (And.intro hg3 hr)); clear hB hg3 hr ht hw
  go_wp2_with fail
  refine htx.mono ?_
  rintro e w4 ⟨rfl, hb4⟩
  go_wp2_with fail
  go_ret
  refine ⟨ret_str (by simp [shaL]), ?_⟩
  have hbw2 : Below w.heap.size w w2 := (unhide H1).2.trans ((unhide H2).1.mono (unhide H1).2.size)
  have hg3 := (unhide H3).2.1
  have hbw3 : Below w.heap.size w w3 := hbw2.grown hg3 hbw2.size (fun k hk => by cases hk; exact Nat.le_refl _)
  exact hbw3.trans (hb4.mono hbw3.size)
set_option maxRecDepth 100000 in
set_option maxHeartbeats 1000000 in
/-- sha.Sum. -/
theorem sum_any (s : ByteArray) (w : World) (hs : s.size ≤ 562949953421312) (htab : TabOk w) (hbg : BeginOk w) :
    Calls Tryd.prog 75 #[.string s] w fun e w' => e = .returned (.string (shaB s)) ∧ Below w.heap.size w w' := by
  have hc := new_any w hbg
  have HT := hide (And.intro htab hbg); clear htab hbg
  go_enter Tryd.func75, Tryd.ntmps75
  go_wp2_with fail
  refine hc.mono ?_
  rintro e w1 ⟨rfl, hH1, hb1⟩
  have htab1 : TabOk w1 := (unhide HT).1.below hb1 (unhide HT).1.lt
  have hw := write_any w.heap.size [] s w1 (by simp) (by omega) (.inl rfl) htab1 (unhide HT).1.lt hH1
  have H1 := hide (And.intro hb1 htab1); clear hb1 htab1 hc hH1
  go_wp2_with fail
  refine hw.mono ?_
  rintro e w2 ⟨rfl, hH2, hg2⟩
  have htab2 : TabOk w2 := (unhide H1).2.grown hg2 (Nat.ne_of_lt (unhide HT).1.lt)
  have hsm := hsum_any w.heap.size ([] ++ s.data.toList) w2 (by simpa using hs) htab2 hH2
  have H2 := hide hg2; clear hg2 hw hH2 htab2
  go_wp2_with fail
  refine hsm.mono ?_
  rintro e w3 ⟨rfl, hb3⟩
  go_wp2_with fail
  go_ret
  have hbw2 : Below w.heap.size w w2 := (unhide H1).1.grown (unhide H2) (unhide H1).1.size (fun k hk => by cases hk; exact Nat.le_refl _)
  exact ⟨rfl, hbw2.trans (hb3.mono hbw2.size)⟩
end Go.Proofs.YtfhaoamlagnpjaaDoor

set_option linter.unusedVariables false
set_option linter.unusedSimpArgs false
namespace Go.Proofs.YtfhaoamlagnpjaaDoor
open Go.RowKit
/-- The cells of block g from its head on are these bytes. -/
def BytesAt (w : World) (g : Nat) (bs : List UInt8) : Prop := ∀ j (hj : j < bs.length), w.cell? ⟨g, j, none⟩ = some (.int .u8 (bs[j].toNat : Int))
theorem BytesAt.keep {w w' : World} {g : Nat} {bs : List UInt8} (h : BytesAt w g bs) (hk : ∀ o, w'.cell? ⟨g, o, none⟩ = w.cell? ⟨g, o, none⟩) : BytesAt w' g bs :=
  fun j hj => (hk j).trans (h j hj)
theorem BytesAt.below {B : Nat} {w w' : World} {g : Nat} {bs : List UInt8} (h : BytesAt w g bs) (hb : Below B w w') (hg : g < B) : BytesAt w' g bs :=
  h.keep fun o => hb.cell (p := ⟨g, o, none⟩) hg
theorem four_of {l : List UInt8} {k : Nat} (h : k + 3 < l.length) : (l.drop k).take 4 = [l[k], l[k + 1], l[k + 2], l[k + 3]] := by
  have h0 := List.drop_eq_getElem_cons (l := l) (i := k) (by omega)
  have h1 := List.drop_eq_getElem_cons (l := l) (i := k + 1) (by omega)
  have h2 := List.drop_eq_getElem_cons (l := l) (i := k + 2) (by omega)
  have h3 := List.drop_eq_getElem_cons (l := l) (i := k + 3) (by omega)
  rw [h0, h1, h2, h3]
  simp only [List.take_succ_cons, List.take_zero]
set_option maxRecDepth 100000 in
set_option maxHeartbeats 1000000 in
theorem schedule_any (g : Nat) (bs : List UInt8) (c : Nat) (p : Int) (w : World) (hn : bs.length ≤ maxLen) (hp0 : 0 ≤ p) (hp : p + 64 ≤ bs.length) (hg : g < w.heap.size) (hB0 : BytesAt w g bs) :
    Calls Tryd.prog 119 #[.slice (some ⟨g, 0, none⟩) bs.length c, .int .i64 p] w fun e w' => e = .returned (.agg (arr64 (sched ((bs.drop p.toNat).take 64)))) ∧ Below w.heap.size w w' := by
  obtain ⟨q, rfl⟩ := Int.eq_ofNat_of_zero_le hp0
  rw [Int.toNat_natCast]
  have hn' : bs.length ≤ 9223372036854775807 := by simpa [maxLen] using hn
  obtain ⟨m, Hm⟩ : ∃ m, Hid (m = bs.length) := ⟨_, rfl⟩
  have hl : ((bs.drop q).take 64).length = 64 := by simp; omega
  have hm1 : bs.length ≤ m := by rw [Hm.out]; omega
  have hm2 : m ≤ bs.length := by rw [Hm.out]; omega
  rw [← Hm.out]
  obtain ⟨b, Hb64⟩ : ∃ b, Hid (b = (bs.drop q).take 64) := ⟨_, rfl⟩
  rw [← Hb64.out] at hl ⊢
  have Hl := Lib.hid hl; clear hl
  have HB0 := hide hB0; clear hB0
  go_enter Tryd.func119, Tryd.ntmps119
  go_wp2
  go_loopw [6] (fun i wr => ∃ k : Nat, k ≤ 16 ∧ i = .int .i64 k ∧ Blk wr (w.heap.size + 1) 157 (arr64 (firstWords b k)) ∧ Blk wr w.heap.size 157 (arr64 []) ∧ Below w.heap.size w wr) (fun i _ => 16 - (intOf i).toNat)
  case atStart => exact ⟨0, by omega, rfl, heap_alloc2_new w _ _, heap_alloc2_old w _ _, ((Below.refl _ _).alloc (Nat.le_refl _) _).alloc (by simp) _⟩
  case round =>
    obtain ⟨k, hk, rfl, hB, hA, hb⟩ := hrel
    by_cases hlt : k < 16
    · have c1 := (hB.cell k).trans (arr64_zero _ k (by rw [firstWords_length]; omega) (by omega))
      have f1 := hB.frozen k
      have Hbb := hide ((unhide HB0).below hb hg)
      have Hh := hide (And.intro hB (And.intro hA hb)); clear hB hA hb
      have e1 : ((q : Int) + 4 * k).toNat = q + 4 * k := by omega
      have E1 := Lib.hid e1; clear e1
      go_wp2_with fail
      have hw := word_any g m c ((q : Int) + 4 * k) (bs[q + 4 * k]'(by omega)) (bs[q + 4 * k + 1]'(by omega)) (bs[q + 4 * k + 2]'(by omega)) (bs[q + 4 * k + 3]'(by omega)) wr (by simp only [maxLen]; omega) (by omega) (by omega)
        (by rw [E1.out]; exact unhide Hbb _ _) (by rw [E1.out]; exact unhide Hbb _ _) (by rw [E1.out]; exact unhide Hbb _ _) (by rw [E1.out]; exact unhide Hbb _ _)
      refine hw.mono ?_
      clear hw
      rintro e w1 ⟨rfl, nd, rfl⟩
      go_wp2
      go_roundw
      case rel =>
        obtain ⟨hB, hA, hb⟩ := unhide Hh
        have hfw : firstWords b (k + 1) = firstWords b k ++ [beN [bs[q + 4 * k]'(by omega), bs[q + 4 * k + 1]'(by omega), bs[q + 4 * k + 2]'(by omega), bs[q + 4 * k + 3]'(by omega)]] := by
          have h4 := four_of (l := b) (k := 4 * k) (by have := Hl.out; omega)
          simp only [firstWords, h4]
          have ebj : ∀ j (hj : j < b.length) (hj' : q + j < bs.length), b[j] = bs[q + j] := by
            intro j hj hj'
            have hb' := Hb64.out
            subst hb'
            simp
          rw [ebj (4 * k) (by have := Hl.out; omega) (by omega), ebj (4 * k + 1) (by have := Hl.out; omega) (by omega), ebj (4 * k + 2) (by have := Hl.out; omega) (by omega), ebj (4 * k + 3) (by have := Hl.out; omega) (by omega)]
          rfl
        refine ⟨k + 1, by omega, by go_num, ?_, ?_, ?_⟩
        · have h := ((hB.drewN nd).set_ k (.int .u32 (beN [bs[q + 4 * k]'(by omega), bs[q + 4 * k + 1]'(by omega), bs[q + 4 * k + 2]'(by omega), bs[q + 4 * k + 3]'(by omega)])))
          have e := arr64_set (firstWords b k) (beN [bs[q + 4 * k]'(by omega), bs[q + 4 * k + 1]'(by omega), bs[q + 4 * k + 2]'(by omega), bs[q + 4 * k + 3]'(by omega)]) (by rw [firstWords_length]; omega)
          rw [firstWords_length] at e
          rw [e] at h
          rw [hfw]
          exact h
        · exact (hA.drewN nd).far (p := ⟨w.heap.size + 1, k, none⟩) (by simp) _
        · exact (below_drewN hb nd).setCell (by simp) _
      case measure => simp [intOf]; omega
    · have hk16 : 16 ≤ k := by omega
      go_wp2_with fail
      go_loopw [7] (fun i wr => ∃ (k : Nat) (l : List Int), l.length = k ∧ 16 ≤ k ∧ k ≤ 64 ∧ U32 l ∧ moreWords (64 - k) l = sched b ∧ i = .int .i64 k ∧ Blk wr (w.heap.size + 1) 157 (arr64 l) ∧ Blk wr w.heap.size 157 (arr64 []) ∧ Below w.heap.size w wr) (fun i _ => 64 - (intOf i).toNat)
      case atStart =>
        obtain rfl : k = 16 := by omega
        exact ⟨16, firstWords b 16, firstWords_length _ _, by omega, by omega, firstWords_U32 _ _, rfl, rfl, hB, hA, hb⟩
      case round =>
        clear hA hB hb
        obtain ⟨k, l, hl, hk1, hk2, hu, hm, rfl, hB, hA, hb⟩ := hrel
        by_cases hlt : k < 64
        · have a15 := (hB.cell (k - 15)).trans (arr64_get l _ (by omega))
          have a2 := (hB.cell (k - 2)).trans (arr64_get l _ (by omega))
          have a7 := (hB.cell (k - 7)).trans (arr64_get l _ (by omega))
          have a16 := (hB.cell (k - 16)).trans (arr64_get l _ (by omega))
          have at_ := (hB.cell k).trans (arr64_zero l k (by omega) (by omega))
          have ft := hB.frozen k
          obtain ⟨x0, x1⟩ := hu.at_ (k - 15)
          obtain ⟨y0, y1⟩ := hu.at_ (k - 2)
          obtain ⟨z0, z1⟩ := hu.at_ (k - 7)
          obtain ⟨t0, t1⟩ := hu.at_ (k - 16)
          generalize hx : l.getD (k - 15) 0 = x at *
          generalize hy : l.getD (k - 2) 0 = y at *
          generalize hz : l.getD (k - 7) 0 = z at *
          generalize ht : l.getD (k - 16) 0 = t at *
          have Hv := hide (And.intro hx (And.intro hy (And.intro hz ht))); clear hx hy hz ht
          have Hh := hide (And.intro hB (And.intro hA (And.intro hb (And.intro hu (And.intro hm hl))))); clear hB hA hb hu hm hl
          have s15 : IntKind.i64.wrap ((k : Int) - 15) = k - 15 := IntWalk.i64_in _ (by omega)
          have s2 : IntKind.i64.wrap ((k : Int) - 2) = k - 2 := IntWalk.i64_in _ (by omega)
          have n15 : ((k : Int) - 15).toNat = k - 15 := by omega
          have n2 : ((k : Int) - 2).toNat = k - 2 := by omega
          have g15 : 0 ≤ (k : Int) - 15 := by omega
          have g2 : 0 ≤ (k : Int) - 2 := by omega
          have r15 : 15 ≤ (k : Int) := by omega
          have r2 : 2 ≤ (k : Int) := by omega
          have u15 : (k : Int) - 15 < 64 := by omega
          have u2 : (k : Int) - 2 < 64 := by omega
          go_wp2_with fail
          refine (rotr_any x 7 _ x0 x1 (by omega) (by omega)).mono ?_
          rintro e w1 ⟨rfl, rfl⟩
          go_wp2_with fail
          refine (rotr_any x 18 _ x0 x1 (by omega) (by omega)).mono ?_
          rintro e w1 ⟨rfl, rfl⟩
          go_wp2_with fail
          refine (rotr_any y 17 _ y0 y1 (by omega) (by omega)).mono ?_
          rintro e w1 ⟨rfl, rfl⟩
          go_wp2_with fail
          refine (rotr_any y 19 _ y0 y1 (by omega) (by omega)).mono ?_
          rintro e w1 ⟨rfl, rfl⟩
          go_wp2_with fail
          clear s15 s2 n15 n2 g15 g2 u15 u2 a15 a2 r15 r2
          have s7 : IntKind.i64.wrap ((k : Int) - 7) = k - 7 := IntWalk.i64_in _ (by omega)
          have s16 : IntKind.i64.wrap ((k : Int) - 16) = k - 16 := IntWalk.i64_in _ (by omega)
          have n7 : ((k : Int) - 7).toNat = k - 7 := by omega
          have n16 : ((k : Int) - 16).toNat = k - 16 := by omega
          have g7 : 0 ≤ (k : Int) - 7 := by omega
          have g16 : 0 ≤ (k : Int) - 16 := by omega
          have r7 : 7 ≤ (k : Int) := by omega
          have r16 : 16 ≤ (k : Int) := by omega
          have u7 : (k : Int) - 7 < 64 := by omega
          have u16 : (k : Int) - 16 < 64 := by omega
          go_still_tail 15, (by kernel_rfl)
          change wpList _ _ _ _ _ wr.drew
          go_wp2
          go_roundw
          case rel =>
            obtain ⟨hB, hA, hb, hu, hm, hl⟩ := unhide Hh
            obtain ⟨hx, hy, hz, ht⟩ := unhide Hv
            have hn : nextWord l = (bits .xor .u32 (bits .xor .u32 (rotr y 17) (rotr y 19)) (y / 1024) + z + bits .xor .u32 (bits .xor .u32 (rotr x 7) (rotr x 18)) (x / 8) + t) % 4294967296 := by
              simp only [nextWord, hl, hx, hy, hz, ht]
            refine ⟨k + 1, l ++ [nextWord l], by simp [hl], by omega, by omega, hu.snoc (by rw [hn]; omega) (by rw [hn]; omega), ?_, by go_num, ?_, ?_, ?_⟩
            · rw [← hm, show 64 - k = (64 - (k + 1)) + 1 from by omega]; rfl
            · have h := (hB.set_ k (.int .u32 (nextWord l))).drew
              have e := arr64_set l (nextWord l) (by omega)
              rw [hl] at e
              rw [e, hn] at h
              rw [hn]
              exact h
            · exact (hA.far (p := ⟨w.heap.size + 1, k, none⟩) (by simp) _).drew
            · exact (hb.setCell (by simp) _).drew
          case measure => simp [intOf]; omega
        · have hk64 : 64 ≤ k := by omega
          have El : Hid (l = sched b) := by
            have h0 : 64 - k = 0 := by omega
            rw [h0] at hm
            exact hm
          have szB := arr64_size l (by omega)
          have szA := arr64_size [] (by simp)
          have one := arr64_one l
          clear hl hm
          obtain ⟨C, HC⟩ : ∃ C, Hid (arr64 l = C) := ⟨_, rfl⟩
          rw [HC.out] at hB szB one
          obtain ⟨D, HD⟩ : ∃ D, Hid (arr64 [] = D) := ⟨_, rfl⟩
          rw [HD.out] at hA szA
          have HB := hide hB; have HA := hide hA; have Hb := hide hb; clear hA hB hb
          have SB := hide szB; have SA := hide szA; clear szA szB
          have ci : (Tryd.prog.info? 157).map (·.size) = some 64 := by kernel_rfl
          have Ci := hide ci; clear ci
          go_wp2_with (first | (refine wpList_load_row rfl 157 (.tmp 5) rfl (w.heap.size + 1) rfl 157 C (0, 0) _ (unhide HB) Tryd.underlying157 rfl ((unhide Ci).trans (by rw [unhide SB])) ?_) | (refine wpList_store_row rfl 157 (.tmp 4) (.tmp 67) rfl w.heap.size C rfl rfl 157 D (unhide HA) ((unhide Ci).trans (by rw [unhide SB])) ((unhide SA).trans (unhide SB).symm) one ?_))
          refine bodyPost_ret (results_cell_row rfl _ _ w.heap.size 157 C (0, 0) _ rfl (setRow_heap wr _ _ _ _ _ (unhide HA)) Tryd.underlying157 rfl ((unhide Ci).trans (by rw [unhide SB]))) rfl ?_
          exact ⟨by rw [← El.out, HC.out], (unhide Hb).setRow (Nat.le_refl _) _⟩
end Go.Proofs.YtfhaoamlagnpjaaDoor

set_option linter.unusedVariables false
set_option linter.unusedSimpArgs false
namespace Go.Proofs.YtfhaoamlagnpjaaDoor
open Go.RowKit
/-- The rounds' constants of the reference are there. -/
def TabOkR (w : World) : Prop := ∀ i, i < 64 → w.cell? ⟨2, i, none⟩ = some (.int .u32 (shaK.getD i 0))
theorem TabOkR.lt {w : World} (h : TabOkR w) : 2 < w.heap.size := World.block_lt_of_cell? w _ (h 0 (by omega))
theorem TabOkR.below {B : Nat} {w w' : World} (h : TabOkR w) (hb : Below B w w') (hB : 2 < B) : TabOkR w' :=
  fun i hi => (hb.cell (p := ⟨2, i, none⟩) hB).trans (h i hi)
theorem st8_one (u : List Int) : ((st8 u).toArray).all (·.oneCell') = true := by
  rw [Array.all_eq_true]
  intro i hi
  simp [st8, Value.oneCell']
set_option maxRecDepth 100000 in
set_option maxHeartbeats 1000000 in
theorem block_any (v : List Int) (g : Nat) (bs : List UInt8) (c : Nat) (p : Int) (w : World) (hv : v.length = 8) (hu : U32 v) (htab : TabOkR w) (hn : bs.length ≤ maxLen) (hp0 : 0 ≤ p) (hp : p + 64 ≤ bs.length) (hg : g < w.heap.size) (hB0 : BytesAt w g bs) :
    Calls Tryd.prog 103 #[.agg (st8 v).toArray, .slice (some ⟨g, 0, none⟩) bs.length c, .int .i64 p] w fun e w' => e = .returned (.agg (st8 (comp v ((bs.drop p.toNat).take 64))).toArray) ∧ Below w.heap.size w w' := by
  obtain ⟨v0, v1, v2, v3, v4, v5, v6, v7, rfl⟩ := list8 hv
  obtain ⟨C, HC⟩ : ∃ C, Hid (arr64 (sched ((bs.drop p.toNat).take 64)) = C) := ⟨_, rfl⟩
  have sizeC : C.size = 64 := by rw [← HC.out]; exact arr64_size _ (Nat.le_of_eq (sched_length _))
  have oneC : C.all (·.oneCell') = true := by rw [← HC.out]; exact arr64_one _
  have SizeC := Lib.hid sizeC; clear sizeC
  have ci : (Tryd.prog.info? 157).map (·.size) = some 64 := by kernel_rfl
  have Ci := hide ci; clear ci
  have HB0 := hide hB0; clear hB0
  have Htab := hide htab; have Hu := hide hu; clear htab hu
  have hst : (st8 [v0, v1, v2, v3, v4, v5, v6, v7]).toArray = #[.int .u32 v0, .int .u32 v1, .int .u32 v2, .int .u32 v3, .int .u32 v4, .int .u32 v5, .int .u32 v6, .int .u32 v7] := rfl
  rw [hst]; clear hst
  go_enter Tryd.func103, Tryd.ntmps103
  go_wp2_with fail
  have hW0 : Blk ((w.alloc (.cells #[.int .u32 v0, .int .u32 v1, .int .u32 v2, .int .u32 v3, .int .u32 v4, .int .u32 v5, .int .u32 v6, .int .u32 v7] 143)).alloc (.cells #[.int .u32 0, .int .u32 0, .int .u32 0, .int .u32 0, .int .u32 0, .int .u32 0, .int .u32 0, .int .u32 0] 143)) w.heap.size 143 #[.int .u32 v0, .int .u32 v1, .int .u32 v2, .int .u32 v3, .int .u32 v4, .int .u32 v5, .int .u32 v6, .int .u32 v7] ∧
      Blk ((w.alloc (.cells #[.int .u32 v0, .int .u32 v1, .int .u32 v2, .int .u32 v3, .int .u32 v4, .int .u32 v5, .int .u32 v6, .int .u32 v7] 143)).alloc (.cells #[.int .u32 0, .int .u32 0, .int .u32 0, .int .u32 0, .int .u32 0, .int .u32 0, .int .u32 0, .int .u32 0] 143)) (w.heap.size + 1) 143 #[.int .u32 0, .int .u32 0, .int .u32 0, .int .u32 0, .int .u32 0, .int .u32 0, .int .u32 0, .int .u32 0] ∧
      Below w.heap.size w ((w.alloc (.cells #[.int .u32 v0, .int .u32 v1, .int .u32 v2, .int .u32 v3, .int .u32 v4, .int .u32 v5, .int .u32 v6, .int .u32 v7] 143)).alloc (.cells #[.int .u32 0, .int .u32 0, .int .u32 0, .int .u32 0, .int .u32 0, .int .u32 0, .int .u32 0, .int .u32 0] 143)) ∧
      ((w.alloc (.cells #[.int .u32 v0, .int .u32 v1, .int .u32 v2, .int .u32 v3, .int .u32 v4, .int .u32 v5, .int .u32 v6, .int .u32 v7] 143)).alloc (.cells #[.int .u32 0, .int .u32 0, .int .u32 0, .int .u32 0, .int .u32 0, .int .u32 0, .int .u32 0, .int .u32 0] 143)).heap.size = w.heap.size + 2 :=
    ⟨heap_alloc2_old w _ _, heap_alloc2_new w _ _, ((Below.refl _ _).alloc (Nat.le_refl _) _).alloc (by simp) _, by simp⟩
  generalize (w.alloc _).alloc _ = W0 at hW0 ⊢
  obtain ⟨hA0, hA1, hb0, hz0⟩ := hW0
  have hw := schedule_any g bs c p W0 hn hp0 hp (by omega) ((unhide HB0).below hb0 hg)
  rw [HC.out] at hw
  refine hw.mono ?_
  clear hw
  rintro e w1 ⟨rfl, hb1⟩
  have hA0' := hA0.below hb1 (by omega)
  have hA1' := hA1.below hb1 (by omega)
  have d0 := hA0'.cell 0
  have d1 := hA0'.cell 1
  have d2 := hA0'.cell 2
  have d3 := hA0'.cell 3
  have d4 := hA0'.cell 4
  have d5 := hA0'.cell 5
  have d6 := hA0'.cell 6
  have d7 := hA0'.cell 7
  simp at d0 d1 d2 d3 d4 d5 d6 d7
  have glt1 : w.heap.size < w1.heap.size := by have := hb1.size; omega
  have glt1' : w.heap.size + 1 < w1.heap.size := by have := hb1.size; omega
  have Hb01 := hide (And.intro (hb0.trans (hb1.mono (by omega))) (And.intro hA0' hA1')); clear hb0 hb1 hA0 hA1 hA0' hA1' hz0
  go_wp2_with (first | (refine wpList_store_row rfl 157 (.tmp 7) (.tmp 17) rfl w1.heap.size C rfl rfl 157 _ (heap_alloc_new w1 _) ((unhide Ci).trans (by rw [SizeC.out])) (by rw [SizeC.out]; rfl) oneC ?_; have hX := setRow_new w1 (List.replicate 64 (Value.int .u32 0)).toArray C 157; simp only [List.replicate_succ, List.replicate_zero] at hX; generalize World.setRow _ w1.heap.size C = W2 at hX ⊢; obtain ⟨hC2, hb2, hz2⟩ := hX; have bc := bcell hb2; replace d0 := (bc.1 w.heap.size 0 glt1).trans d0; replace d1 := (bc.1 w.heap.size 1 glt1).trans d1; replace d2 := (bc.1 w.heap.size 2 glt1).trans d2; replace d3 := (bc.1 w.heap.size 3 glt1).trans d3; replace d4 := (bc.1 w.heap.size 4 glt1).trans d4; replace d5 := (bc.1 w.heap.size 5 glt1).trans d5; replace d6 := (bc.1 w.heap.size 6 glt1).trans d6; replace d7 := (bc.1 w.heap.size 7 glt1).trans d7; have HC2 := hide hC2; have Hb2 := hide hb2; have Hz2 := hide hz2; clear bc hC2 hb2 hz2))
  clear d0 d1 d2 d3 d4 d5 d6 d7
  go_loopw [9] (fun i wr => ∃ (k : Nat) (u : List Int), k ≤ 64 ∧ i = .int .i64 k ∧ u.length = 8 ∧ rds (sched ((bs.drop p.toNat).take 64)) [v0, v1, v2, v3, v4, v5, v6, v7] k = u ∧ U32 u ∧ Blk wr W2.heap.size 143 (st8 u).toArray ∧ Below W2.heap.size W2 wr) (fun i _ => 64 - (intOf i).toNat)
  case atStart => exact ⟨0, [v0, v1, v2, v3, v4, v5, v6, v7], by omega, rfl, rfl, rfl, unhide Hu, heap_alloc_new W2 _, (Below.refl _ _).alloc (Nat.le_refl _) _⟩
  case round =>
    obtain ⟨k, u, hk, rfl, hul, hr, hU, hB, hb⟩ := hrel
    by_cases hlt : k < 64
    · obtain ⟨a0, a1, a2, a3, a4, a5, a6, a7, rfl⟩ := list8 hul
      clear hul
      have d0 := hB.cell 0
      have d1 := hB.cell 1
      have d2 := hB.cell 2
      have d3 := hB.cell 3
      have d4 := hB.cell 4
      have d5 := hB.cell 5
      have d6 := hB.cell 6
      have d7 := hB.cell 7
      simp [st8] at d0 d1 d2 d3 d4 d5 d6 d7
      have tk := ((unhide Htab).below (unhide Hb01).1 (unhide Htab).lt).below ((unhide Hb2).trans (hb.mono (by rw [unhide Hz2]; omega))) (Nat.lt_of_lt_of_le (unhide Htab).lt (unhide Hb01).1.size) k hlt
      have wk := (hb.cell (p := ⟨w1.heap.size, k, none⟩) (by rw [unhide Hz2]; simp)).trans ((unhide HC2).cell k)
      have hck : C[k]? = some (.int .u32 ((sched ((bs.drop p.toNat).take 64)).getD k 0)) := by rw [← HC.out]; exact arr64_get _ _ (by rw [sched_length]; exact hlt)
      rw [hck] at wk; clear hck
      obtain ⟨x0, x0'⟩ := hU.at_ 0
      obtain ⟨x4, x4'⟩ := hU.at_ 4
      simp at x0 x0' x4 x4'
      generalize hwk : (sched ((bs.drop p.toNat).take 64)).getD k 0 = wv at *
      generalize htk : shaK.getD k 0 = kv at *
      have Hr := hide (And.intro hr (And.intro hwk (And.intro htk (And.intro hU (And.intro hB hb))))); clear hr hwk htk hU hB hb
      go_wp2_with fail
      go_quiet ((go_at_call 120; exact quiet_left (rotr_int _ _ _ (by assumption) (by assumption) (by omega) (by omega))))
      go_wp2_with fail
      go_quiet ((go_at_call 120; exact quiet_add_left (rotr_int _ _ _ (by assumption) (by assumption) (by omega) (by omega))))
      go_wp2_with (refine wpList_store_row rfl 143 (.tmp 8) (.tmp 98) rfl W2.heap.size (st8 (rnd [a0, a1, a2, a3, a4, a5, a6, a7] kv wv)).toArray (by kernel_rfl) (by kernel_rfl) 143 (st8 [a0, a1, a2, a3, a4, a5, a6, a7]).toArray (unhide Hr).2.2.2.2.1 (by kernel_rfl) (by kernel_rfl) (by kernel_rfl) ?_)
      go_roundw
      case rel =>
        obtain ⟨hr, hwk, htk, hU, hB, hb⟩ := unhide Hr
        exact ⟨k + 1, rnd [a0, a1, a2, a3, a4, a5, a6, a7] kv wv, by omega, by go_num, rfl, by rw [rds, hr, hwk, htk], rnd_U32 hU _ _, setRow_heap _ _ _ _ _ _ hB, (below_drewN hb _).setRow (Nat.le_refl _) _⟩
      case measure => simp [intOf]; omega
    · have hk64 : 64 ≤ k := by omega
      have hz : w1.heap.size < W2.heap.size := by have h2 := unhide Hz2; omega
      have hG2 : Blk wr w.heap.size 143 (st8 [v0, v1, v2, v3, v4, v5, v6, v7]).toArray :=
        ((unhide Hb01).2.1.below (unhide Hb2) glt1).below hb (by omega)
      have hR2 : Blk wr (w.heap.size + 1) 143 #[.int .u32 0, .int .u32 0, .int .u32 0, .int .u32 0, .int .u32 0, .int .u32 0, .int .u32 0, .int .u32 0] :=
        ((unhide Hb01).2.2.below (unhide Hb2) glt1').below hb (by omega)
      have hgr : Below w.heap.size w wr := ((unhide Hb01).1.trans ((unhide Hb2).mono (by omega))).trans (hb.mono (by omega))
      have Hr := hide (And.intro hr (And.intro hU hul)); clear hr hU
      have Hx := hide (And.intro hB (And.intro hG2 (And.intro hgr (And.intro hR2 hul)))); clear hB hG2 hgr hR2 hul hb
      go_wp2_with fail
      go_loopw [14] (fun i wz => ∃ j : Nat, j ≤ 8 ∧ i = .int .i64 j ∧ Blk wz w.heap.size 143 (st8 (mix [v0, v1, v2, v3, v4, v5, v6, v7] u j) ++ []).toArray ∧ Blk wz W2.heap.size 143 (st8 u).toArray ∧ Below w.heap.size w wz ∧ Blk wz (w.heap.size + 1) 143 #[.int .u32 0, .int .u32 0, .int .u32 0, .int .u32 0, .int .u32 0, .int .u32 0, .int .u32 0, .int .u32 0]) (fun i _ => 8 - (intOf i).toNat)
      case atStart => exact ⟨0, by omega, rfl, (unhide Hx).2.1, (unhide Hx).1, (unhide Hx).2.2.1, (unhide Hx).2.2.2.1⟩
      case round =>
        have hul := (unhide Hx).2.2.2.2
        have Hul := hide hul; clear hul
        clear Hx
        obtain ⟨j, hj, rfl, hG, hV, hgr, hR2⟩ := hrel
        by_cases hlt : j < 8
        · have cg := (hG.cell j).trans (mix_at _ u [] j rfl (unhide Hul) hlt)
          have cv := (hV.cell j).trans (st8_at u j (by rw [unhide Hul]; exact hlt))
          have fg := hG.frozen j
          generalize hx : [v0, v1, v2, v3, v4, v5, v6, v7].getD j 0 = x at cg
          generalize hy : u.getD j 0 = y at cv
          have Hy := hide (And.intro hx (And.intro hy (And.intro hG (And.intro hV (And.intro hgr hR2))))); clear hx hy hG hV hgr hR2
          go_wp2_with fail
          go_still_tail 9, (by kernel_rfl)
          change wpList _ _ _ _ _ (World.drew _)
          go_wp2
          go_roundw
          case rel =>
            obtain ⟨hx, hy, hG, hV, hgr, hR2⟩ := unhide Hy
            have hs := mix_set [v0, v1, v2, v3, v4, v5, v6, v7] u [] j rfl (unhide Hul) hlt
            rw [hx, hy] at hs
            have h := hG.set_ j (.int .u32 ((x + y) % 4294967296))
            rw [hs] at h
            exact ⟨j + 1, by omega, by go_num, h.drew, (hV.far (p := ⟨w.heap.size, j, none⟩) (by simp; omega) _).drew, (hgr.setCell (Nat.le_refl _) _).drew, (hR2.far (p := ⟨w.heap.size, j, none⟩) (by simp) _).drew⟩
          case measure => simp [intOf]; omega
        · obtain rfl : j = 8 := by omega
          have hG8 : Blk wr w.heap.size 143 (st8 (comp [v0, v1, v2, v3, v4, v5, v6, v7] ((bs.drop p.toNat).take 64))).toArray := by
            obtain ⟨hr, hU, hul⟩ := unhide Hr
            obtain rfl : k = 64 := by omega
            rw [mix_all _ _ rfl (unhide Hul), ← hr, List.append_nil] at hG
            exact hG
          obtain ⟨D, HD⟩ : ∃ D, Hid (D = (st8 (comp [v0, v1, v2, v3, v4, v5, v6, v7] ((bs.drop p.toNat).take 64))).toArray) := ⟨_, rfl⟩
          have sizeD : D.size = 8 := by rw [HD.out]; simp [st8, comp, rds_length]
          have oneD : D.all (·.oneCell') = true := by rw [HD.out]; exact st8_one _
          rw [← HD.out] at hG8
          have SD := hide sizeD; clear sizeD
          have Hy := hide (And.intro hG8 (And.intro hgr hR2)); clear hG hG8 hgr hR2 hV
          have ci8 : (Tryd.prog.info? 143).map (·.size) = some 8 := by kernel_rfl
          have Ci8 := hide ci8; clear ci8
          go_wp2_with (first | (refine wpList_load_row rfl 143 (.tmp 3) rfl w.heap.size rfl 143 D (0, 0) _ (unhide Hy).1 Tryd.underlying143 rfl ((unhide Ci8).trans (by rw [unhide SD])) ?_) | (refine wpList_store_row rfl 143 (.tmp 6) (.tmp 112) rfl (w.heap.size + 1) D rfl rfl 143 _ (unhide Hy).2.2 ((unhide Ci8).trans (by rw [unhide SD])) (by rw [unhide SD]; rfl) oneD ?_))
          refine bodyPost_ret (results_cell_row rfl _ _ (w.heap.size + 1) 143 D (0, 0) _ rfl (setRow_heap wr _ _ _ _ _ (unhide Hy).2.2) Tryd.underlying143 rfl ((unhide Ci8).trans (by rw [unhide SD]))) rfl ?_
          exact ⟨by rw [HD.out], (unhide Hy).2.1.setRow (by omega) _⟩
end Go.Proofs.YtfhaoamlagnpjaaDoor

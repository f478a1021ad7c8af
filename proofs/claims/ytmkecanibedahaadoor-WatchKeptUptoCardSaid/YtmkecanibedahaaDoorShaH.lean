/-
  CONTRACTS of package sha: a Hash is made, written, summed.
-/
import Derived.Test.YtmkecanibedahaaDoorRows
import Derived.Test.YtmkecanibedahaaDoorWd
import Derived.Test.YtmkecanibedahaaDoorBytes
import Derived.Test.YtmkecanibedahaaDoorCopyStr
import Derived.Test.YtmkecanibedahaaDoorShaD
import Derived.Test.YtmkecanibedahaaDoorShaF
import Derived.Test.YtmkecanibedahaaDoorShaG
import Derived.StillTailTactics
set_option linter.unusedVariables false
set_option linter.unusedSimpArgs false
namespace Go.Proofs.YtmkecanibedahaaDoor
open Go.RowKit Go.Lib
def shaInit : List Int := [1779033703, 3144134277, 1013904242, 2773480762, 1359893119, 2600822924, 528734635, 1541459225]
theorem shaInit_U32 : U32 shaInit := by
  intro x hx
  simp only [shaInit, List.mem_cons, List.not_mem_nil, or_false] at hx
  rcases hx with rfl | rfl | rfl | rfl | rfl | rfl | rfl | rfl <;> decide
def BeginOk (w : World) : Prop := ∀ i, i < 8 → w.cell? ⟨1, i, none⟩ = some (.int .u32 (shaInit.getD i 0))
theorem BeginOk.lt {w : World} (h : BeginOk w) : 1 < w.heap.size := World.block_lt_of_cell? w _ (h 0 (by omega))
theorem BeginOk.below {B : Nat} {w w' : World} (h : BeginOk w) (hb : Below B w w') (hB : 1 < B) : BeginOk w' :=
  fun i hi => (hb.cell (p := ⟨1, i, none⟩) hB).trans (h i hi)
/-- A Hash in block g that has taken m. -/
def hashCells (v : List Int) (rest : List UInt8) (n : Nat) : Array Value := (st8 v ++ (byteCells rest ++ [Value.int .i64 n])).toArray
def IsHash (w : World) (g : Nat) (m : List UInt8) : Prop :=
  ∃ rest : List UInt8, rest.length = 64 ∧ rest.take (m.length % 64) = m.drop (64 * (m.length / 64)) ∧ Blk w g 58 (hashCells (stN shaInit (m.length / 64) m) rest m.length)
theorem hash_n (v : List Int) (rest : List UInt8) (n : Nat) (hv : v.length = 8) (hr : rest.length = 64) : (hashCells v rest n)[72]? = some (.int .i64 n) := by
  simp [hashCells, st8, List.getElem?_append, hv, hr, byteCells]
theorem hash_rest (v : List Int) (rest : List UInt8) (n : Nat) (hv : v.length = 8) (hr : rest.length = 64) (j : Nat) (hj : j < 64) : (hashCells v rest n)[8 + j]? = some (.int .u8 ((rest[j]'(by omega)).toNat : Int)) := by
  simp [hashCells, st8, List.getElem?_append, hv, hr, byteCells, hj]
theorem hash_size (v : List Int) (rest : List UInt8) (n : Nat) (hv : v.length = 8) (hr : rest.length = 64) : (hashCells v rest n).size = 73 := by
  simp [hashCells, st8, hv, hr, byteCells]
set_option maxRecDepth 100000 in
set_option maxHeartbeats 400000 in
theorem hash_zero (w : World) : (zeroValue 58).run Tryd.prog w = .ok (.agg #[.int .u32 0, .int .u32 0, .int .u32 0, .int .u32 0, .int .u32 0, .int .u32 0, .int .u32 0, .int .u32 0, .int .u8 0, .int .u8 0, .int .u8 0, .int .u8 0, .int .u8 0, .int .u8 0, .int .u8 0, .int .u8 0, .int .u8 0, .int .u8 0, .int .u8 0, .int .u8 0, .int .u8 0, .int .u8 0, .int .u8 0, .int .u8 0, .int .u8 0, .int .u8 0, .int .u8 0, .int .u8 0, .int .u8 0, .int .u8 0, .int .u8 0, .int .u8 0, .int .u8 0, .int .u8 0, .int .u8 0, .int .u8 0, .int .u8 0, .int .u8 0, .int .u8 0, .int .u8 0, .int .u8 0, .int .u8 0, .int .u8 0, .int .u8 0, .int .u8 0, .int .u8 0, .int .u8 0, .int .u8 0, .int .u8 0, .int .u8 0, .int .u8 0, .int .u8 0, .int .u8 0, .int .u8 0, .int .u8 0, .int .u8 0, .int .u8 0, .int .u8 0, .int .u8 0, .int .u8 0, .int .u8 0, .int .u8 0, .int .u8 0, .int .u8 0, .int .u8 0, .int .u8 0, .int .u8 0, .int .u8 0, .int .u8 0, .int .u8 0, .int .u8 0, .int .u8 0, .int .i64 0]) w := by kernel_rfl
set_option maxRecDepth 100000 in
set_option maxHeartbeats 400000 in
theorem new_any (w : World) (hbg : BeginOk w) : Calls Tryd.prog 16 #[] w fun e w' => e = .returned (.pointer (some ⟨w.heap.size, 0, none⟩)) ∧ IsHash w' w.heap.size [] ∧ Below w.heap.size w w' := by
  have d0 := hbg 0 (by omega)
  have d1 := hbg 1 (by omega)
  have d2 := hbg 2 (by omega)
  have d3 := hbg 3 (by omega)
  have d4 := hbg 4 (by omega)
  have d5 := hbg 5 (by omega)
  have d6 := hbg 6 (by omega)
  have d7 := hbg 7 (by omega)
  clear hbg
  simp [shaInit] at d0 d1 d2 d3 d4 d5 d6 d7
  have hz := hash_zero w
  go_enter Tryd.func16, Tryd.ntmps16
  go_wp2
  go_ret
  refine ⟨rfl, ⟨List.replicate 64 0, by simp, by simp, ?_⟩, (Below.refl _ _).alloc (Nat.le_refl _) _⟩
  have h : ∀ X, X = hashCells shaInit (List.replicate 64 0) 0 → Blk (w.alloc (.cells X 58)) w.heap.size 58 (hashCells shaInit (List.replicate 64 0) 0) := by
    rintro X rfl
    exact Blk.new _ _ _
  exact h _ (by kernel_rfl)
set_option maxRecDepth 100000 in
set_option maxHeartbeats 400000 in
theorem held_any (g : Nat) (m : List UInt8) (w : World) (hm : m.length ≤ 1125899906842624) (hH : IsHash w g m) : Calls Tryd.prog 28 #[.pointer (some ⟨g, 0, none⟩)] w fun e w' => e = .returned (.int .i64 ((m.length % 64 : Nat) : Int)) ∧ w = w' := by
  obtain ⟨rest, hr, _, hB⟩ := hH
  have c := (hB.cell 72).trans (hash_n _ _ _ (stN_length rfl _ _) hr)
  clear hB hr
  go_enter Tryd.func28, Tryd.ntmps28
  go_wp2
  go_ret
  exact ⟨ret_int (by omega), rfl⟩
set_option maxRecDepth 100000 in
set_option maxHeartbeats 400000 in
theorem copy_any (g : Nat) (m : List UInt8) (w : World) (hH : IsHash w g m) : Calls Tryd.prog 31 #[.pointer (some ⟨g, 0, none⟩)] w fun e w' => e = .returned (.pointer (some ⟨w.heap.size, 0, none⟩)) ∧ IsHash w' w.heap.size m ∧ Below w.heap.size w w' := by
  obtain ⟨rest, hr, ht, hB⟩ := hH
  have hsz := hash_size (stN shaInit (m.length / 64) m) rest m.length (stN_length rfl _ _) hr
  have hone : (hashCells (stN shaInit (m.length / 64) m) rest m.length).all (·.oneCell') = true := by
    rw [Array.all_eq_true]
    intro i hi
    have hm := Array.getElem_mem (xs := hashCells (stN shaInit (m.length / 64) m) rest m.length) hi
    generalize (hashCells (stN shaInit (m.length / 64) m) rest m.length)[i] = X at hm
    simp only [hashCells, st8, byteCells, List.mem_toArray, List.mem_append, List.mem_map, List.mem_cons, List.not_mem_nil, or_false] at hm
    rcases hm with ⟨x, _, h⟩ | ⟨x, _, h⟩ | h
    · rw [← h]; rfl
    · rw [← h]; rfl
    · rw [h]; rfl
  have glt := hB.lt
  obtain ⟨C, HC⟩ : ∃ C, Hid (hashCells (stN shaInit (m.length / 64) m) rest m.length = C) := ⟨_, rfl⟩
  rw [HC.out] at hB hsz hone
  have ci : (Tryd.prog.info? 58).map (·.size) = some 73 := by kernel_rfl
  have hi : (Tryd.prog.info? 58).map (·.size) = some C.size := ci.trans (by rw [hsz])
  have Hi := hide hi; clear ci hi
  have Hsz := Lib.hid hsz; clear hsz
  have HB := hide hB; clear hB
  have Hrt := hide (And.intro hr ht); clear hr ht
  have hz := hash_zero w
  go_enter Tryd.func31, Tryd.ntmps31
  go_wp2_with (first | (refine wpList_load_row rfl 58 (.tmp 5) rfl g rfl 58 C (0, 0) _ (unhide HB) Tryd.underlying58 rfl (unhide Hi) ?_) | (refine wpList_store_row rfl 58 (.tmp 3) (.tmp 6) rfl w.heap.size C rfl rfl 58 _ (heap_alloc_new w _) (unhide Hi) (by rw [Hsz.out]; kernel_rfl) hone ?_))
  go_ret
  obtain ⟨hr, ht⟩ := unhide Hrt
  refine ⟨rfl, ⟨rest, hr, ht, ?_⟩, ((Below.refl _ _).alloc (Nat.le_refl _) _).setRow (Nat.le_refl _) _⟩
  rw [HC.out]
  exact setRow_heap _ _ _ _ _ _ (heap_alloc_new w _)
end Go.Proofs.YtmkecanibedahaaDoor

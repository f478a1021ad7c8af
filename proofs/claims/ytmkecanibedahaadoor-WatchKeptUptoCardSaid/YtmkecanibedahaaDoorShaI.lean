/-
  CONTRACTS of package sha: a Hash is written, and summed.
-/
import Derived.Test.YtmkecanibedahaaDoorRows
import Derived.Test.YtmkecanibedahaaDoorWd
import Derived.Test.YtmkecanibedahaaDoorBytes
import Derived.Test.YtmkecanibedahaaDoorShaD
import Derived.Test.YtmkecanibedahaaDoorShaF
import Derived.Test.YtmkecanibedahaaDoorShaG
import Derived.Test.YtmkecanibedahaaDoorShaH
import Derived.StillTailTactics
import Derived.Deep.RegionHeld3
set_option linter.unusedVariables false
set_option linter.unusedSimpArgs false
namespace Go.Proofs.YtmkecanibedahaaDoor
open Go.RowKit Go.Lib
theorem absorb_A (v : List Int) (m p : List UInt8) (h : m.length % 64 = 0) :
    stN (stN v (m.length / 64) m) (p.length / 64) p = stN v ((m ++ p).length / 64) (m ++ p) ∧ (m ++ p).length % 64 = p.length % 64 ∧ (m ++ p).drop (64 * ((m ++ p).length / 64)) = p.drop (64 * (p.length / 64)) := by
  have hm : m.length = 64 * (m.length / 64) := by omega
  have hl : (m ++ p).length / 64 = m.length / 64 + p.length / 64 := by simp; omega
  refine ⟨?_, by simp; omega, ?_⟩
  · rw [hl, stN_add, stN_append v _ m p (by omega), List.drop_append_of_le_length (by omega), List.drop_eq_nil_of_le (by omega), List.nil_append]
  · rw [hl, List.drop_append, List.drop_eq_nil_of_le (by omega), List.nil_append]
    congr 1
    omega
theorem absorb_B (v : List Int) (m p : List UInt8) (r : Nat) (hr : m.length % 64 = r) (h0 : 0 < r) (hp : 64 - r ≤ p.length) :
    stN (comp (stN v (m.length / 64) m) (m.drop (64 * (m.length / 64)) ++ p.take (64 - r))) ((p.length - (64 - r)) / 64) (p.drop (64 - r)) = stN v ((m ++ p).length / 64) (m ++ p) ∧
      (m ++ p).length % 64 = (p.length - (64 - r)) % 64 ∧ (m ++ p).drop (64 * ((m ++ p).length / 64)) = (p.drop (64 - r)).drop (64 * ((p.length - (64 - r)) / 64)) := by
  have hl : (m ++ p).length / 64 = m.length / 64 + (1 + (p.length - (64 - r)) / 64) := by simp; omega
  have hd : (m ++ p).drop (64 * (m.length / 64)) = m.drop (64 * (m.length / 64)) ++ p := List.drop_append_of_le_length (by omega)
  have hdl : (m.drop (64 * (m.length / 64))).length = r := by simp; omega
  refine ⟨?_, by simp; omega, ?_⟩
  · rw [hl, stN_add, stN_append v _ m p (by omega), hd, stN_add]
    have h1 : stN (stN v (m.length / 64) m) 1 (m.drop (64 * (m.length / 64)) ++ p) = comp (stN v (m.length / 64) m) (m.drop (64 * (m.length / 64)) ++ p.take (64 - r)) := by
      show comp _ ((m.drop (64 * (m.length / 64)) ++ p).take 64) = _
      rw [List.take_append, hdl, List.take_of_length_le (by omega)]
    rw [h1]
    have h2 : (m.drop (64 * (m.length / 64)) ++ p).drop (64 * 1) = p.drop (64 - r) := by
      rw [List.drop_append, hdl, List.drop_eq_nil_of_le (by omega), List.nil_append]
    rw [h2]
  · rw [hl, show 64 * (m.length / 64 + (1 + (p.length - (64 - r)) / 64)) = 64 * (m.length / 64) + (64 + 64 * ((p.length - (64 - r)) / 64)) from by omega, ← List.drop_drop, hd, ← List.drop_drop]
    have h2 : (m.drop (64 * (m.length / 64)) ++ p).drop 64 = p.drop (64 - r) := by
      rw [List.drop_append, hdl, List.drop_eq_nil_of_le (by omega), List.nil_append]
    rw [h2]
/-- The cells of a Hash behind a copy into its rest. -/
theorem hash_copy (v : List Int) (rest : List UInt8) (n : Nat) (hv : v.length = 8) (hr : rest.length = 64) (o : Nat) (x : List UInt8) (hx : o + x.length ≤ 64) :
    ((hashCells v rest n).toList.take (8 + o) ++ byteCells x ++ (hashCells v rest n).toList.drop (8 + o + x.length)).toArray = hashCells v (rest.take o ++ x ++ rest.drop (o + x.length)) n := by
  have h8 : (st8 v).length = 8 := by simp [st8, hv]
  have hb : (byteCells rest).length = 64 := by rw [byteCells_length, hr]
  apply Array.ext'
  simp only [hashCells]
  rw [List.take_append, h8, List.take_of_length_le (by omega), show 8 + o - 8 = o from by omega, List.take_append_of_le_length (by omega)]
  rw [List.drop_append, h8, List.drop_eq_nil_of_le (by omega), List.nil_append, show 8 + o + x.length - 8 = o + x.length from by omega, List.drop_append_of_le_length (by omega)]
  simp only [byteCells, List.map_append, List.map_take, List.map_drop, List.append_assoc]
theorem run_mkf (fn : Fn) (first cap : Array Value) (w : World) : (Instr.makeFunc fn first cap).run Tryd.prog w = .ok (.func fn first cap) w := rfl
theorem cells_fit (v : List Int) (rest : List UInt8) (n k : Nat) (hv : v.length = 8) (hr : rest.length = 64) : 8 + min k 64 ≤ (st8 v ++ (byteCells rest ++ [Value.int .i64 n])).toArray.size := by
  simp [st8, hv, hr, byteCells]
  omega
/-- The rest behind blocks and a copy: what is left of p, and what was behind it. -/
def tailRest (p : ByteArray) (rest : List UInt8) : List UInt8 := p.data.toList.drop (64 * (p.size / 64)) ++ rest.drop (p.size % 64)
theorem tail_len (p : ByteArray) (rest : List UInt8) (hr : rest.length = 64) : (tailRest p rest).length = 64 := by simp [tailRest, hr]; omega
theorem tail_take (p : ByteArray) (rest : List UInt8) : (tailRest p rest).take (p.size % 64) = p.data.toList.drop (64 * (p.size / 64)) := by
  have hl : (p.data.toList.drop (64 * (p.size / 64))).length = p.size % 64 := by simp; omega
  unfold tailRest
  rw [List.take_append_of_le_length (by omega), List.take_of_length_le (by omega)]
theorem hash_setn (v : List Int) (rest : List UInt8) (n : Nat) (hv : v.length = 8) (hr : rest.length = 64) (n' : Nat) {x : Int} (hx : x = (n' : Int)) : (hashCells v rest n).setIfInBounds 72 (.int .i64 x) = hashCells v rest n' := by
  subst hx
  apply Array.ext'
  have h8 : (st8 v).length = 8 := by simp [st8, hv]
  have hb : (byteCells rest).length = 64 := by rw [byteCells_length, hr]
  simp only [hashCells, List.setIfInBounds_toArray]
  rw [List.set_append_right _ _ (by omega), h8, List.set_append_right _ _ (by omega), hb]
  rfl
theorem tail_in {w : World} {g : Nat} {T : TypeId} {v : List Int} {rest : List UInt8} {n : Nat} {p : ByteArray} (hv : v.length = 8) (hr : rest.length = 64)
    (h : Blk w g T ((st8 v ++ (byteCells rest ++ [Value.int .i64 n])).toArray.toList.take 8 ++ byteCells ((p.extract (64 * (p.size / 64)) p.size).data.toList.take (min (p.extract (64 * (p.size / 64)) p.size).size 64)) ++ (st8 v ++ (byteCells rest ++ [Value.int .i64 n])).toArray.toList.drop (8 + min (p.extract (64 * (p.size / 64)) p.size).size 64)).toArray) :
    Blk w g T (hashCells v (tailRest p rest) n) := by
  have hs : (p.extract (64 * (p.size / 64)) p.size).size = p.size % 64 := by simp; omega
  have hm : min (p.extract (64 * (p.size / 64)) p.size).size 64 = p.size % 64 := by omega
  have hl : ((p.extract (64 * (p.size / 64)) p.size).data.toList).length = p.size % 64 := by simpa using hs
  have hx : (p.extract (64 * (p.size / 64)) p.size).data.toList = p.data.toList.drop (64 * (p.size / 64)) := by
    rw [extract_list _ _ _ (Nat.le_refl _), List.take_of_length_le (by simp)]
  have hx2 : (p.extract (64 * (p.size / 64)) p.size).data.toList.take (p.size % 64) = (p.extract (64 * (p.size / 64)) p.size).data.toList := List.take_of_length_le (by omega)
  rw [hm, hx2] at h
  have hc := hash_copy v rest n hv hr 0 ((p.extract (64 * (p.size / 64)) p.size).data.toList) (by omega)
  rw [hl] at hc
  have e : (List.take 0 rest ++ (p.extract (64 * (p.size / 64)) p.size).data.toList ++ List.drop (0 + p.size % 64) rest) = tailRest p rest := by
    rw [hx]; simp [tailRest]
  rw [e] at hc
  rw [← hc]
  exact h
theorem TabOk.drew {w : World} (h : TabOk w) : TabOk w.drew := h
theorem step_copy_str {ops : Array Oper} {o : Oper} {a : Act} {K : Act → World → Prop} {Q : Exit → Act → World → Prop} {E : Prop} {w : World} (hgd : o.guard = none) (d s : Operand)
    (ho : o.op = .call { callee := .builtin .copy, args := #[d, s], argTypes := #[48, 9] }) {T : TypeId} {cur : Array Value} {g : Nat} (hB : Blk w g T cur) (off dLen dCap : Nat) (st : ByteArray) (hd : a.eval d = .slice (some ⟨g, off, none⟩) dLen dCap) (hs : a.eval s = .string st)
    (n : Nat) (hn : n = min st.size dLen) (hfit : off + n ≤ cur.size)
    (h : ∀ w', Blk w' g T (cur.toList.take off ++ byteCells (st.data.toList.take n) ++ cur.toList.drop (off + n)).toArray → w.grownBy w' (some g) → w'.heap.size = w.heap.size → K (a.put o.dst (.int .i64 n)) w') :
    if Region.wanted o (yielded ops a.tmps) = true then Oper.wp Tryd.prog o a w K Q else E := by
  have hw : Region.wanted o (yielded ops a.tmps) = true := by simp [Region.wanted, hgd]
  rw [if_pos hw]
  have hr := run_copy_str w o.type g off dLen dCap st T cur hB n hn hfit
  unfold Oper.wp execOp
  simp only [ho, resolve, invoke, builtin, Sem.run_bind, Sem.run_pure, Result.andThen_ok, List.map_toArray, List.map_cons, List.map_nil, hd, hs, hr]
  exact h _ (setRow_heap w g _ _ _ _ hB) ⟨rfl, rfl, rfl, by simp, fun k _ hk => setRow_other w g k _ (fun e => hk (by rw [e]))⟩ (by simp)
set_option maxRecDepth 100000 in
set_option maxHeartbeats 1000000 in
theorem write_A (g : Nat) (m : List UInt8) (p : ByteArray) (w : World) (hm : m.length ≤ 1125899906842624) (hp : p.size ≤ 1125899906842624) (h0 : m.length % 64 = 0) (htab : TabOk w) (hg : 3 < g) (hH : IsHash w g m) :
    Calls Tryd.prog 17 #[.pointer (some ⟨g, 0, none⟩), .string p] w fun e w' => e = .returned (.int .i64 p.size) ∧ IsHash w' g (m ++ p.data.toList) ∧ w.grownBy w' (some g) := by
  have hh := held_any g m w hm hH
  rw [h0] at hh
  have Hh := hide hh; clear hh
  obtain ⟨rest, hr, ht, hB⟩ := hH
  have hb := blocks_any 58 g (stN shaInit (m.length / 64) m) (byteCells rest ++ [Value.int .i64 m.length]) p w.drew (by simp only [maxLen]; omega) (stN_length rfl _ _) (stN_U32 shaInit_U32 _ _) htab.drew hg hB.drew
  have Hb := hide hb
  have Hx := hide (And.intro hr (And.intro ht hB)); clear hr ht hB hb htab
  have hmf := run_mkf
  go_enter Tryd.func17, Tryd.ntmps17
  go_wp2_with fail
  refine (unhide Hh).mono ?_
  rintro e w1 ⟨rfl, rfl⟩
  go_wp2_with fail
  go_region_held3 (fun _ => True) (trivial) (first | (go_at_call 30; refine (unhide Hb).mono ?_; rintro e w1 ⟨rfl, hgr1, hB1⟩) | (refine step_copy_str rfl (.tmp 40) (.tmp 46) rfl hB1 8 64 64 _ rfl rfl _ rfl (cells_fit _ _ _ _ (stN_length (stN_length rfl _ _) _ _) (unhide Hx).1) ?_; intro w2 hB2 hgr2 hz2))
  have hB3 := tail_in (stN_length (stN_length rfl _ _) _ _) (unhide Hx).1 hB2
  have c72 := (hB3.cell 72).trans (hash_n _ _ _ (stN_length (stN_length rfl _ _) _ _) (tail_len p rest (unhide Hx).1))
  have f72 := hB3.frozen 72
  have Hy := hide (And.intro hB3 (And.intro hgr1 hgr2)); clear hB3 hB2 hB1 hgr1 hgr2 hz2 hmf
  go_wp2
  go_ret
  obtain ⟨hB3, hgr1, hgr2⟩ := unhide Hy
  obtain ⟨hr, ht, hB⟩ := unhide Hx
  obtain ⟨e1, e2, e3⟩ := absorb_A shaInit m p.data.toList h0
  have hpl : p.data.toList.length = p.size := by simp
  have hgr : w.grownBy w2 (some g) := grown_trans' (grown_trans' (only_drew (World.grownBy.refl w _)) hgr1) hgr2
  refine ⟨rfl, ⟨tailRest p rest, tail_len p rest hr, ?_, ?_⟩, only_setCell (p := ⟨g, 72, none⟩) hgr (.inl rfl) _⟩
  · rw [e2, e3, hpl]
    exact tail_take p rest
  · have h := hB3.set_ 72 (.int .i64 ((m.length : Int) + p.size))
    rw [hash_setn _ _ _ (stN_length (stN_length rfl _ _) _ _) (tail_len p rest hr) (m.length + p.size) (by simp)] at h
    have hl : (m ++ p.data.toList).length = m.length + p.size := by simp
    rw [← e1, hl, hpl]
    exact h
theorem run_slice_rest (g o : Nat) (r : Nat) (h : r < 64) (w : World) :
    (Instr.sliceAt 56 (.pointer (some ⟨g, o, none⟩)) (some (.int .i64 (r : Int))) none none).run Tryd.prog w = .ok (.slice (some ⟨g, o + r, none⟩) (64 - r) (64 - r)) w := by
  have ht : Tryd.prog.underlying 56 = some (.array (Tryd.prog.arrayLen 56) (Tryd.prog.elem 56)) := by kernel_rfl
  have hl : Tryd.prog.arrayLen 56 = 64 := by kernel_rfl
  have hs : (sizeOf (Tryd.prog.elem 56)).run Tryd.prog w = .ok 1 w := by kernel_rfl
  rw [run_sliceAt_array_l w _ _ ht .i64 (r : Int) (by omega) (by rw [hl]; omega), hs, hl]
  simp only [Result.andThen, slicedAt, Addr.add]
  rw [if_neg (by omega)]
  simp
theorem conv_hash {w : World} {g : Nat} {T : TypeId} {v : List Int} {rest : List UInt8} {n : Nat} (hv : v.length = 8) (hr : rest.length = 64) (hB : Blk w g T (hashCells v rest n)) :
    (convert 48 9 (.slice (some ⟨g, 8, none⟩) 64 64)).run Tryd.prog w = .ok (.string ⟨rest.toArray⟩) w := by
  have h := Go.run_convert_bytes_back w 48 9 5 ⟨g, 8, none⟩ 64 rest Tryd.underlying48 Tryd.underlying5 Tryd.underlying9 (fun j hj => by
    have hadd : (⟨g, 8, none⟩ : Addr).add j = ⟨g, 8 + j, none⟩ := by unfold Addr.add; split <;> simp_all
    rw [hadd, hB.cell, hash_rest v rest n hv hr j (by omega)])
  rw [hr] at h
  exact h
set_option maxRecDepth 100000 in
set_option maxHeartbeats 1000000 in
theorem write_B (g : Nat) (m : List UInt8) (p : ByteArray) (w : World) (r : Nat) (hm : m.length ≤ 1125899906842624) (hp : p.size ≤ 1125899906842624) (h0 : m.length % 64 = r) (hr0 : 0 < r) (hpr : 64 - r ≤ p.size) (htab : TabOk w) (hg : 3 < g) (hH : IsHash w g m) :
    Calls Tryd.prog 17 #[.pointer (some ⟨g, 0, none⟩), .string p] w fun e w' => e = .returned (.int .i64 p.size) ∧ IsHash w' g (m ++ p.data.toList) ∧ w.grownBy w' (some g) := by
  have hh := held_any g m w hm hH
  rw [h0] at hh
  have Hh := hide hh; clear hh
  have hr64 : r < 64 := by omega
  obtain ⟨rest, hr, ht, hB⟩ := hH
  rw [h0] at ht
  have Hx := hide (And.intro h0 (And.intro hr (And.intro ht (And.intro htab hB)))); clear h0 hr ht hB htab
  have hmf := run_mkf
  have hsl := run_slice_rest g 8 r hr64
  go_enter Tryd.func17, Tryd.ntmps17
  go_wp2_with fail
  refine (unhide Hh).mono ?_
  rintro e w1 ⟨rfl, rfl⟩
  go_wp2_with (refine wpList_copy_str w rfl (.tmp 18) (.tmp 19) rfl (unhide Hx).2.2.2.2 (8 + r) (64 - r) (64 - r) p rfl rfl (64 - r) (by omega) (by rw [hash_size _ _ _ (stN_length rfl _ _) (unhide Hx).2.1]; omega) ?_; intro w2 hB2 hgr2 hz2)
  have hc := hash_copy (stN shaInit (m.length / 64) m) rest m.length (stN_length rfl _ _) (unhide Hx).2.1 r (p.data.toList.take (64 - r)) (by simp; omega)
  have hpl : (p.data.toList.take (64 - r)).length = 64 - r := by simp; omega
  rw [hpl] at hc
  rw [hc] at hB2
  clear hc
  have hrl : (rest.take r ++ p.data.toList.take (64 - r) ++ rest.drop (r + (64 - r))).length = 64 := by simp [(unhide Hx).2.1]; omega
  obtain ⟨rest1, Hr1⟩ : ∃ x, Hid (rest.take r ++ p.data.toList.take (64 - r) ++ rest.drop (r + (64 - r)) = x) := ⟨_, rfl⟩
  rw [Hr1.out] at hB2 hrl
  have hcv := conv_hash (stN_length rfl _ _) hrl hB2
  have hcvd := conv_hash (stN_length rfl _ _) hrl hB2.drew
  have ht := take_any 58 g (stN shaInit (m.length / 64) m) (byteCells rest1 ++ [Value.int .i64 m.length]) ⟨rest1.toArray⟩ w2.drew (by simp [ByteArray.size, hrl]) (stN_length rfl _ _) (stN_U32 shaInit_U32 _ _) (TabOk.grown (unhide Hx).2.2.2.1 hgr2 (Nat.ne_of_lt hg)).drew hg hB2.drew
  have Ht := hide ht; clear ht
  have Hz := hide (And.intro hrl (And.intro hB2 hgr2)); clear hrl hB2 hgr2
  go_region_held3 (fun W => (convert 48 9 (.slice (some ⟨g, 8, none⟩) 64 64)).run Tryd.prog W = .ok (.string ⟨rest1.toArray⟩) W) (first | assumption) (first | (go_at_call 29; refine (unhide Ht).mono ?_; rintro e w3 ⟨rfl, hgr3, hB3⟩; have hcv3 := conv_hash (v := comp (stN shaInit (m.length / 64) m) rest1) (comp_length (stN_length rfl _ _) _) (unhide Hz).1 hB3))
  obtain ⟨hrl, hB2, hgr2⟩ := unhide Hz
  have hb := blocks_any 58 g (comp (stN shaInit (m.length / 64) m) rest1) (byteCells rest1 ++ [Value.int .i64 m.length]) (p.extract (64 - r) p.size) w3.drew (by simp only [maxLen]; simp; omega) (comp_length (stN_length rfl _ _) _) (comp_U32 _ _) (TabOk.grown (TabOk.grown (unhide Hx).2.2.2.1 hgr2 (Nat.ne_of_lt hg)).drew hgr3 (Nat.ne_of_lt hg)).drew hg hB3.drew
  have Hb := hide hb; clear hb
  have Hz := hide (And.intro hrl (And.intro hB3 (grown_trans' (only_drew hgr2) hgr3))); clear hrl hB2 hgr2 hB3 hgr3 hcv hcvd hcv3 Ht
  obtain ⟨v1, Hv1⟩ : ∃ x, Hid (comp (stN shaInit (m.length / 64) m) rest1 = x) := ⟨_, rfl⟩
  have hv1 : v1.length = 8 := by rw [← Hv1.out]; exact comp_length (stN_length rfl _ _) _
  obtain ⟨p1, Hp1⟩ : ∃ x, Hid (p.extract (64 - r) p.size = x) := ⟨_, rfl⟩
  rw [Hv1.out, Hp1.out] at Hb
  rw [Hv1.out] at Hz
  rw [Hp1.out]
  go_wp2_with fail
  go_region_held3 (fun _ => True) (trivial) (first | (go_at_call 30; refine (unhide Hb).mono ?_; rintro e w4 ⟨rfl, hgr1, hB1⟩) | (refine step_copy_str rfl (.tmp 40) (.tmp 46) rfl hB1 8 64 64 _ rfl rfl _ rfl (cells_fit _ _ _ _ (stN_length hv1 _ _) (unhide Hz).1) ?_; intro w5 hB2 hgr2 hz2))
  have hB3 := tail_in (stN_length hv1 _ _) (unhide Hz).1 hB2
  have c72 := (hB3.cell 72).trans (hash_n _ _ _ (stN_length hv1 _ _) (tail_len p1 rest1 (unhide Hz).1))
  have f72 := hB3.frozen 72
  have Hy := hide (And.intro hB3 (And.intro hgr1 hgr2)); clear hB3 hB2 hB1 hgr1 hgr2 hz2 hmf
  go_wp2
  go_ret
  obtain ⟨hB3, hgr1, hgr2⟩ := unhide Hy
  obtain ⟨h0, hr, ht, htab, hB⟩ := unhide Hx
  obtain ⟨hrl, -, hgr0⟩ := unhide Hz
  obtain ⟨e1, e2, e3⟩ := absorb_B shaInit m p.data.toList r h0 hr0 (by simpa using hpr)
  have hgr : w.grownBy w5 (some g) := grown_trans' (grown_trans' (only_drew hgr0) hgr1) hgr2
  have hp1s : p1.size = p.size - (64 - r) := by rw [← Hp1.out]; simp
  have hp1l : p1.data.toList = p.data.toList.drop (64 - r) := by rw [← Hp1.out, extract_list _ _ _ (Nat.le_refl _), List.take_of_length_le (by simp)]
  have hr1 : rest1 = m.drop (64 * (m.length / 64)) ++ p.data.toList.take (64 - r) := by
    rw [← Hr1.out, ht, show r + (64 - r) = rest.length from by omega, List.drop_length, List.append_nil]
  refine ⟨rfl, ⟨tailRest p1 rest1, tail_len p1 rest1 hrl, ?_, ?_⟩, only_setCell (p := ⟨g, 72, none⟩) hgr (.inl rfl) _⟩
  · rw [e2, e3, show p.data.toList.length = p.size from by simp, ← hp1s, ← hp1l]
    exact tail_take p1 rest1
  · have h := hB3.set_ 72 (.int .i64 ((m.length : Int) + p.size))
    rw [hash_setn _ _ _ (stN_length hv1 _ _) (tail_len p1 rest1 hrl) (m.length + p.size) (by simp)] at h
    have hl : (m ++ p.data.toList).length = m.length + p.size := by simp
    rw [← e1, hl, ← hr1, Hv1.out, show p.data.toList.length = p.size from by simp, ← hp1s, ← hp1l]
    exact h
end Go.Proofs.YtmkecanibedahaaDoor

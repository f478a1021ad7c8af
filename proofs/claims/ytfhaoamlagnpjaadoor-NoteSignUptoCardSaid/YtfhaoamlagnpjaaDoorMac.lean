/-
  CONTRACTS of package mac, and of the document's answer for it: codes, and a key's name.
-/
import Derived.Test.YtfhaoamlagnpjaaDoorRows
import Derived.Test.YtfhaoamlagnpjaaDoorWd
import Derived.Test.YtfhaoamlagnpjaaDoorBytes
import Derived.Test.YtfhaoamlagnpjaaDoorShaJ
import Derived.Test.YtfhaoamlagnpjaaDoorShaK
import Derived.StillTailTactics
import Derived.Deep.RegionHeld3
set_option linter.unusedVariables false
set_option linter.unusedSimpArgs false
namespace Go.Proofs.YtfhaoamlagnpjaaDoor
open Go.RowKit Go.Lib
/-- The first k bytes mixed with x. -/
def mixK (K : List UInt8) (x : UInt8) (k : Nat) : List UInt8 := (K.take k).map (· ^^^ x) ++ K.drop k
theorem mixK_zero (K : List UInt8) (x : UInt8) : mixK K x 0 = K := by simp [mixK]
theorem mixK_all (K : List UInt8) (x : UInt8) (k : Nat) (h : K.length ≤ k) : mixK K x k = K.map (· ^^^ x) := by
  simp [mixK, List.take_of_length_le h, List.drop_eq_nil_of_le h]
theorem mixK_length (K : List UInt8) (x : UInt8) (k : Nat) : (mixK K x k).length = K.length := by simp [mixK]; omega
theorem mixK_at (K : List UInt8) (x : UInt8) (k : Nat) (h : k < K.length) : (byteCells (mixK K x k)).toArray[k]? = some (.int .u8 (K[k].toNat : Int)) := by
  have hl : ((K.take k).map (· ^^^ x)).length = k := by simp; omega
  simp only [byteCells, mixK, List.map_append, List.getElem?_toArray]
  rw [List.getElem?_append_right (by simp; omega)]
  simp [h, Nat.min_eq_left (Nat.le_of_lt h)]
theorem mixK_set (K : List UInt8) (x : UInt8) (k : Nat) (h : k < K.length) : (byteCells (mixK K x k)).toArray.setIfInBounds k (.int .u8 ((K[k] ^^^ x).toNat : Int)) = (byteCells (mixK K x (k + 1))).toArray := by
  have hl : ((K.take k).map (· ^^^ x)).length = k := by simp; omega
  apply Array.ext'
  simp only [List.setIfInBounds_toArray]
  have hd := List.drop_eq_getElem_cons h
  simp only [byteCells, mixK]
  rw [hd, List.take_succ_eq_append_getElem h, List.map_append, List.map_append, List.map_append, List.set_append_right _ _ (by simp; omega)]
  simp only [List.length_map, List.length_take, Nat.min_eq_left (Nat.le_of_lt h), Nat.sub_self]
  simp only [List.map_cons, List.set_cons_zero, List.map_nil, List.map_append, List.append_assoc, List.cons_append, List.nil_append]
theorem u8_xor (a b : UInt8) : bits .xor .u8 (a.toNat : Int) (b.toNat : Int) = ((a ^^^ b).toNat : Int) := by
  have e : ∀ c : UInt8, (BitVec.ofInt 8 (c.toNat : Int)).toNat = c.toNat := fun c => by
    rw [BitVec.ofInt_natCast, BitVec.toNat_ofNat]; exact Nat.mod_eq_of_lt c.toNat_lt
  have hx : (a ^^^ b).toNat < 2 ^ 8 := (a ^^^ b).toNat_lt
  show IntKind.u8.wrap ((BitVec.ofInt 8 (a.toNat : Int) ^^^ BitVec.ofInt 8 (b.toNat : Int)).toNat : Int) = _
  rw [BitVec.toNat_xor, e, e, ← UInt8.toNat_xor]
  simp [IntKind.wrap, IntKind.bits, IntKind.signed] at hx ⊢
  omega
theorem conv_row {w : World} {g off cap : Nat} {bs : List UInt8} (h : ∀ j (hj : j < bs.length), w.cell? ⟨g, off + j, none⟩ = some (.int .u8 (bs[j].toNat : Int))) :
    (convert 75 9 (.slice (some ⟨g, off, none⟩) bs.length cap)).run Tryd.prog w = .ok (.string ⟨bs.toArray⟩) w :=
  Go.run_convert_bytes_back w 75 9 5 ⟨g, off, none⟩ cap bs Tryd.underlying75 Tryd.underlying5 Tryd.underlying9 (fun j hj => by
    have hadd : (⟨g, off, none⟩ : Addr).add j = ⟨g, off + j, none⟩ := by unfold Addr.add; split <;> simp_all
    rw [hadd]
    exact h j hj)
set_option maxRecDepth 100000 in
set_option maxHeartbeats 1000000 in
theorem mixed_any (g : Nat) (K : List UInt8) (x : UInt8) (w : World) (hK : K.length = 64) (hB : Blk w g 135 (byteCells K).toArray) :
    Calls Tryd.prog 95 #[.int .u8 (x.toNat : Int), .pointer (some ⟨g, 0, none⟩)] w fun e w' => e = .returned (.string ⟨(K.map (· ^^^ x)).toArray⟩) ∧ Below w.heap.size w w' := by
  obtain ⟨C, HC⟩ : ∃ C, Hid ((byteCells K).toArray = C) := ⟨_, rfl⟩
  rw [HC.out] at hB
  have hC : C.size = 64 := by rw [← HC.out]; simp [byteCells_length, hK]
  have ci : (Tryd.prog.info? 135).map (·.size) = some C.size := by rw [hC]; kernel_rfl
  have one : C.all (·.oneCell') = true := by
    rw [← HC.out, Array.all_eq_true]
    intro i hi
    exact bytes_one K _ (Array.mem_toList_iff.2 (Array.getElem_mem hi))
  have HB := hide (And.intro hB (And.intro hC (And.intro ci one))); clear hB hC ci one
  go_enter Tryd.func95, Tryd.ntmps95
  go_wp2_with (first | (refine wpList_load_row rfl 135 (.tmp 1) rfl g rfl 135 C (0, 0) _ (unhide HB).1 Tryd.underlying135 rfl (unhide HB).2.2.1 ?_) | (refine wpList_store_row rfl 135 (.tmp 4) (.tmp 6) rfl w.heap.size C rfl rfl 135 _ (heap_alloc_new w _) (unhide HB).2.2.1 (by rw [(unhide HB).2.1]; kernel_rfl) (unhide HB).2.2.2 ?_))
  go_loopw [7] (fun i wr => ∃ k : Nat, k ≤ 64 ∧ i = .int .i64 k ∧ Blk wr w.heap.size 135 (byteCells (mixK K x k)).toArray ∧ Below w.heap.size w wr) (fun i _ => 64 - (intOf i).toNat)
  case atStart =>
    refine ⟨0, by omega, rfl, ?_, ((Below.refl _ _).alloc (Nat.le_refl _) _).setRow (Nat.le_refl _) _⟩
    rw [mixK_zero, HC.out]
    exact setRow_heap _ _ _ _ _ _ (heap_alloc_new w _)
  case round =>
    obtain ⟨k, hk, rfl, hB, hb⟩ := hrel
    rcases Nat.lt_or_ge k 64 with hlt | hge
    · have c1 := (hB.cell k).trans (mixK_at K x k (by omega))
      have f1 := hB.frozen k
      generalize hy : K[k]'(by omega) = y at c1
      have Hx := hide (And.intro hy (And.intro hB hb)); clear hy hB hb
      go_wp2_with fail
      go_roundw
      case rel =>
        obtain ⟨hy, hB, hb⟩ := unhide Hx
        have h := hB.set_ k (.int .u8 (bits .xor .u8 (y.toNat : Int) (x.toNat : Int)))
        rw [u8_xor, ← hy, mixK_set K x k (by omega)] at h
        rw [u8_xor, ← hy]
        exact ⟨k + 1, by omega, by go_num, h, hb.setCell (Nat.le_refl _) _⟩
      case measure => simp [intOf]; omega
    · have hcv := conv_row (g := w.heap.size) (off := 0) (bs := K.map (· ^^^ x)) (cap := 64) (w := wr) (fun j hj => by
        have hj' : j < (mixK K x k).length := by rw [mixK_length]; simpa using hj
        rw [Nat.zero_add, hB.cell j]
        simp only [mixK_all K x k (by omega)]
        simp only [byteCells, List.getElem?_toArray, List.getElem?_map, List.getElem?_eq_getElem hj, Option.map_some])
      rw [show (K.map (· ^^^ x)).length = 64 from by simpa using hK] at hcv
      have Hx := hide hb; clear hB hb
      go_wp2_with fail
      go_ret
      exact ⟨rfl, unhide Hx⟩
/-- A key as a block. -/
def keyK (key : List UInt8) : List UInt8 := key ++ List.replicate (64 - key.length) 0
def keyS (key : List UInt8) : List UInt8 := if key.length ≤ 64 then key else shaL key
def macL (key msg : List UInt8) : List UInt8 := shaL ((keyK (keyS key)).map (· ^^^ 92) ++ shaL ((keyK (keyS key)).map (· ^^^ 54) ++ msg))
theorem keyS_length (key : List UInt8) : (keyS key).length ≤ 64 := by
  unfold keyS
  split
  · assumption
  · rw [shaL_length]; omega
theorem keyK_length {key : List UInt8} (h : key.length ≤ 64) : (keyK key).length = 64 := by simp [keyK]; omega
theorem macL_length (key msg : List UInt8) : (macL key msg).length = 32 := shaL_length _
theorem copyK (k : ByteArray) (h : k.size ≤ 64) : (List.take 0 (List.replicate 64 (Value.int .u8 0)) ++ byteCells (List.take k.size k.data.toList) ++ List.drop (0 + k.size) (List.replicate 64 (Value.int .u8 0))) = byteCells (keyK k.data.toList) := by
  have hl : k.data.toList.length = k.size := by simp
  rw [← hl, List.take_length]
  simp only [List.take_zero, List.nil_append, Nat.zero_add, List.drop_replicate, byteCells, keyK, List.map_append, List.map_replicate]
  rfl
set_option maxRecDepth 100000 in
set_option maxHeartbeats 1000000 in
theorem mac_any (key msg : ByteArray) (w : World) (hk : key.size ≤ 562949953421312) (hm : msg.size ≤ 281474976710656) (htab : TabOk w) (hbg : BeginOk w) :
    Calls Tryd.prog 69 #[.string key, .string msg] w fun e w' => e = .returned (.string ⟨(macL key.data.toList msg.data.toList).toArray⟩) ∧ Below w.heap.size w w' := by
  have hmf := run_mkf
  rcases Nat.lt_or_ge 64 key.size with h64 | h64
  · have hs := sum_any key w hk htab hbg
    have HT := hide (And.intro htab hbg)
    clear htab hbg
    go_enter Tryd.func69, Tryd.ntmps69
    go_wp2_with fail
    refine hs.mono ?_
    rintro e w0 ⟨rfl, hb0⟩
    have hkS : Hid (keyS key.data.toList = (shaB key).data.toList) := Lib.hid (by unfold keyS; rw [if_neg (by simpa using h64)]; rfl)
    have hk2 : (shaB key).size ≤ 64 := by rw [shaB_size]; omega
    obtain ⟨k2, Hk2⟩ : ∃ k, Hid (shaB key = k) := ⟨_, rfl⟩
    rw [Hk2.out] at hk2 hkS ⊢
    have HT0 := hide (And.intro ((unhide HT).1.below hb0 (unhide HT).1.lt) ((unhide HT).2.below hb0 (unhide HT).2.lt))
    have Hb0 := hide hb0
    clear hb0 hs
    go_wp2_with (first | (refine wpList_copy_str _ rfl (.tmp 12) (.tmp 13) rfl (Blk.new _ _ _) 0 64 64 _ rfl rfl k2.size (by omega) (by simp; omega) ?_; intro w1 hB1 hg1 hz1; have H1 := hide (And.intro hB1 (And.intro hg1 hz1)); clear hB1 hg1 hz1))
    have hB1 : Blk w1 w0.heap.size 135 (byteCells (keyK k2.data.toList)).toArray := by
      rw [← copyK k2 hk2]; exact (unhide H1).1
    have hb1 : Below w.heap.size w w1 := ((unhide Hb0).alloc (unhide Hb0).size _).grown (unhide H1).2.1 (by have := (unhide Hb0).size; simp <;> omega) (fun k hk => by cases hk; exact (unhide Hb0).size)
    have hb10 : Below w0.heap.size w0 w1 := ((Below.refl _ _).alloc (Nat.le_refl _) _).grown (unhide H1).2.1 (by simp) (fun k hk => by cases hk; exact Nat.le_refl _)
    have hT1 : TabOk w1 ∧ BeginOk w1 := ⟨(unhide HT0).1.below hb10 (unhide HT0).1.lt, (unhide HT0).2.below hb10 (unhide HT0).2.lt⟩
    have hkl : (keyK k2.data.toList).length = 64 := keyK_length (by simpa using hk2)
    have hm1 := mixed_any w0.heap.size (keyK k2.data.toList) 92 w1 hkl hB1
    have H2 := hide (And.intro hB1 (And.intro hb1 (And.intro hT1 hkl))); clear hB1 hb1 hb10 hT1 hkl H1
    refine hm1.mono ?_
    rintro e w2 ⟨rfl, hb2⟩
    have hB2 := (unhide H2).1.below hb2 (unhide H2).1.lt
    have hb2' : Below w.heap.size w w2 := (unhide H2).2.1.trans (hb2.mono (unhide H2).2.1.size)
    have hT2 : TabOk w2 ∧ BeginOk w2 := ⟨(unhide H2).2.2.1.1.below hb2 (unhide H2).2.2.1.1.lt, (unhide H2).2.2.1.2.below hb2 (unhide H2).2.2.1.2.lt⟩
    have hm2 := mixed_any w0.heap.size (keyK k2.data.toList) 54 w2 (unhide H2).2.2.2 hB2
    have H3 := hide (And.intro hb2' hT2); clear hb2 hB2 hb2' hT2 hm1
    go_wp2_with fail
    refine hm2.mono ?_
    rintro e w3 ⟨rfl, hb3⟩
    have hb3' : Below w.heap.size w w3 := (unhide H3).1.trans (hb3.mono (unhide H3).1.size)
    have hT3 : TabOk w3 ∧ BeginOk w3 := ⟨(unhide H3).2.1.below hb3 (unhide H3).2.1.lt, (unhide H3).2.2.below hb3 (unhide H3).2.2.lt⟩
    have hA : ((⟨((keyK k2.data.toList).map (· ^^^ 54)).toArray⟩ : ByteArray)).size = 64 := by simpa [ByteArray.size] using (unhide H2).2.2.2
    have hC : ((⟨((keyK k2.data.toList).map (· ^^^ 92)).toArray⟩ : ByteArray)).size = 64 := by simpa [ByteArray.size] using (unhide H2).2.2.2
    obtain ⟨A, HA⟩ : ∃ A, Hid ((⟨((keyK k2.data.toList).map (· ^^^ 54)).toArray⟩ : ByteArray) = A) := ⟨_, Lib.hid rfl⟩
    obtain ⟨C, HC⟩ : ∃ C, Hid ((⟨((keyK k2.data.toList).map (· ^^^ 92)).toArray⟩ : ByteArray) = C) := ⟨_, Lib.hid rfl⟩
    rw [HA.out] at hA ⊢
    rw [HC.out] at hC ⊢
    have hs3 := sum_any (A ++ msg) w3 (by rw [ByteArray.size_append]; omega) hT3.1 hT3.2
    have H4 := hide (And.intro hb3' hT3); clear hb3 hb3' hT3 hm2 H3
    go_wp2_with fail
    refine hs3.mono ?_
    rintro e w4 ⟨rfl, hb4⟩
    have hb4' : Below w.heap.size w w4 := (unhide H4).1.trans (hb4.mono (unhide H4).1.size)
    have hT4 : TabOk w4 ∧ BeginOk w4 := ⟨(unhide H4).2.1.below hb4 (unhide H4).2.1.lt, (unhide H4).2.2.below hb4 (unhide H4).2.2.lt⟩
    have hs4 := sum_any (C ++ shaB (A ++ msg)) w4 (by rw [ByteArray.size_append, shaB_size]; omega) hT4.1 hT4.2
    have hsz := shaB_size (A ++ msg)
    have H5 := hide (And.intro hb4' hT4); clear hb4 hb4' hT4 hs3 H4
    go_wp2_with fail
    refine hs4.mono ?_
    rintro e w5 ⟨rfl, hb5⟩
    go_wp2_with fail
    go_ret
    refine ⟨ret_str ?_, (unhide H5).1.trans (hb5.mono (unhide H5).1.size)⟩
    unfold macL
    rw [hkS.out, ← HA.out, ← HC.out]
    simp only [shaB, ByteArray.data_append, Array.toList_append]
  · obtain ⟨k2, rfl⟩ : ∃ k, k = key := ⟨_, rfl⟩
    obtain ⟨w0, rfl⟩ : ∃ k, k = w := ⟨_, rfl⟩
    have hkS : Hid (keyS k2.data.toList = k2.data.toList) := Lib.hid (by unfold keyS; rw [if_pos (by simpa using h64)])
    have hk2 : k2.size ≤ 64 := h64
    have HT0 := hide (And.intro htab hbg)
    have Hb0 := hide (Below.refl w0.heap.size w0)
    clear htab hbg
    go_enter Tryd.func69, Tryd.ntmps69
    go_wp2_with (first | (refine wpList_copy_str _ rfl (.tmp 12) (.tmp 13) rfl (Blk.new _ _ _) 0 64 64 _ rfl rfl k2.size (by omega) (by simp; omega) ?_; intro w1 hB1 hg1 hz1; have H1 := hide (And.intro hB1 (And.intro hg1 hz1)); clear hB1 hg1 hz1))
    have hB1 : Blk w1 w0.heap.size 135 (byteCells (keyK k2.data.toList)).toArray := by
      rw [← copyK k2 hk2]; exact (unhide H1).1
    have hb1 : Below w0.heap.size w0 w1 := ((unhide Hb0).alloc (unhide Hb0).size _).grown (unhide H1).2.1 (by have := (unhide Hb0).size; simp <;> omega) (fun k hk => by cases hk; exact (unhide Hb0).size)
    have hb10 : Below w0.heap.size w0 w1 := ((Below.refl _ _).alloc (Nat.le_refl _) _).grown (unhide H1).2.1 (by simp) (fun k hk => by cases hk; exact Nat.le_refl _)
    have hT1 : TabOk w1 ∧ BeginOk w1 := ⟨(unhide HT0).1.below hb10 (unhide HT0).1.lt, (unhide HT0).2.below hb10 (unhide HT0).2.lt⟩
    have hkl : (keyK k2.data.toList).length = 64 := keyK_length (by simpa using hk2)
    have hm1 := mixed_any w0.heap.size (keyK k2.data.toList) 92 w1 hkl hB1
    have H2 := hide (And.intro hB1 (And.intro hb1 (And.intro hT1 hkl))); clear hB1 hb1 hb10 hT1 hkl H1
    refine hm1.mono ?_
    rintro e w2 ⟨rfl, hb2⟩
    have hB2 := (unhide H2).1.below hb2 (unhide H2).1.lt
    have hb2' : Below w0.heap.size w0 w2 := (unhide H2).2.1.trans (hb2.mono (unhide H2).2.1.size)
    have hT2 : TabOk w2 ∧ BeginOk w2 := ⟨(unhide H2).2.2.1.1.below hb2 (unhide H2).2.2.1.1.lt, (unhide H2).2.2.1.2.below hb2 (unhide H2).2.2.1.2.lt⟩
    have hm2 := mixed_any w0.heap.size (keyK k2.data.toList) 54 w2 (unhide H2).2.2.2 hB2
    have H3 := hide (And.intro hb2' hT2); clear hb2 hB2 hb2' hT2 hm1
    go_wp2_with fail
    refine hm2.mono ?_
    rintro e w3 ⟨rfl, hb3⟩
    have hb3' : Below w0.heap.size w0 w3 := (unhide H3).1.trans (hb3.mono (unhide H3).1.size)
    have hT3 : TabOk w3 ∧ BeginOk w3 := ⟨(unhide H3).2.1.below hb3 (unhide H3).2.1.lt, (unhide H3).2.2.below hb3 (unhide H3).2.2.lt⟩
    have hA : ((⟨((keyK k2.data.toList).map (· ^^^ 54)).toArray⟩ : ByteArray)).size = 64 := by simpa [ByteArray.size] using (unhide H2).2.2.2
    have hC : ((⟨((keyK k2.data.toList).map (· ^^^ 92)).toArray⟩ : ByteArray)).size = 64 := by simpa [ByteArray.size] using (unhide H2).2.2.2
    obtain ⟨A, HA⟩ : ∃ A, Hid ((⟨((keyK k2.data.toList).map (· ^^^ 54)).toArray⟩ : ByteArray) = A) := ⟨_, Lib.hid rfl⟩
    obtain ⟨C, HC⟩ : ∃ C, Hid ((⟨((keyK k2.data.toList).map (· ^^^ 92)).toArray⟩ : ByteArray) = C) := ⟨_, Lib.hid rfl⟩
    rw [HA.out] at hA ⊢
    rw [HC.out] at hC ⊢
    have hs3 := sum_any (A ++ msg) w3 (by rw [ByteArray.size_append]; omega) hT3.1 hT3.2
    have H4 := hide (And.intro hb3' hT3); clear hb3 hb3' hT3 hm2 H3
    go_wp2_with fail
    refine hs3.mono ?_
    rintro e w4 ⟨rfl, hb4⟩
    have hb4' : Below w0.heap.size w0 w4 := (unhide H4).1.trans (hb4.mono (unhide H4).1.size)
    have hT4 : TabOk w4 ∧ BeginOk w4 := ⟨(unhide H4).2.1.below hb4 (unhide H4).2.1.lt, (unhide H4).2.2.below hb4 (unhide H4).2.2.lt⟩
    have hs4 := sum_any (C ++ shaB (A ++ msg)) w4 (by rw [ByteArray.size_append, shaB_size]; omega) hT4.1 hT4.2
    have hsz := shaB_size (A ++ msg)
    have H5 := hide (And.intro hb4' hT4); clear hb4 hb4' hT4 hs3 H4
    go_wp2_with fail
    refine hs4.mono ?_
    rintro e w5 ⟨rfl, hb5⟩
    go_wp2_with fail
    go_ret
    refine ⟨ret_str ?_, (unhide H5).1.trans (hb5.mono (unhide H5).1.size)⟩
    unfold macL
    rw [hkS.out, ← HA.out, ← HC.out]
    simp only [shaB, ByteArray.data_append, Array.toList_append]
end Go.Proofs.YtfhaoamlagnpjaaDoor

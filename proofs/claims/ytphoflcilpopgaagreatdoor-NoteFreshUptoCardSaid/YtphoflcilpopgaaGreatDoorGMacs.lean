/-
  Several texts in one: CONTRACTS of package text: Name. | CONTRACTS of package mac, and of the document's answer for it: codes, and a key's name. | CONTRACTS of package mac and of the document's answer for it: a key's name; the same codes. | CONTRACT of the document's Name. | CONTRACT of note.ID at a key whose name does not go. | CONTRACTS towards NoteID: both sides answer a key's four bytes, or refuse its name. | CONTRACTS: note.ID and the document's ID.
-/
import Derived.Test.YtphoflcilpopgaaGreatDoorRows
import Derived.StillTailTactics
import Derived.Deep.RegionHeld3
import Derived.Test.YtphoflcilpopgaaGreatDoorGBase
import Derived.Test.YtphoflcilpopgaaGreatDoorGShF
set_option linter.unusedVariables false
set_option linter.unusedSimpArgs false
namespace Go.Proofs.YtphoflcilpopgaaGreatDoor
open Go.RowKit

def nameByte (c : Int) : Bool := decide (32 < c) && decide (c < 127) && (c != 43)

set_option maxHeartbeats 400000 in
theorem nameF_any (c : Int) (w : World) (h0 : 0 ≤ c) (h1 : c ≤ 255) :
    Calls Tryz.prog 76 #[.int .u8 c] w fun e w' => e = .returned (.bool (nameByte c)) ∧ w = w' := by
  go_enter Tryz.func76, Tryz.ntmps76
  go_wp2
  all_goals go_ret
  all_goals exact ⟨ret_bool (by first | (simp [nameByte, *]; done) | (simp [nameByte]; omega)), rfl⟩

/-- Can a key or a log have this name? -/
def nameAll (s : ByteArray) : Bool := s.data.toList.all (fun c => nameByte c.toNat)
def nameOk (s : ByteArray) : Bool := decide (1 ≤ s.size) && decide (s.size ≤ 64) && nameAll s
theorem all_take_size (s : ByteArray) (p : UInt8 → Bool) : ((∀ j (hj : j < s.size), p s[j] = true)) → s.data.toList.all p = true := by
  intro h
  rw [List.all_eq_true]
  intro x hx
  obtain ⟨j, hj, rfl⟩ := List.mem_iff_getElem.1 hx
  simp at hj
  exact h j hj
theorem all_false_at (s : ByteArray) (p : UInt8 → Bool) (j : Nat) (hj : j < s.size) (h : p s[j] = false) : s.data.toList.all p = false := by
  rw [List.all_eq_false]
  refine ⟨s[j], ?_, by simp [h]⟩
  have : s[j] = s.data.toList[j]'(by simpa using hj) := rfl
  rw [this]
  exact List.getElem_mem _
theorem nameF_enters : Enters Tryz.prog 76 := enters_of Tryz.func76 (by kernel_rfl) rfl
theorem nameEach_any (s : ByteArray) (w : World) (hs : s.size ≤ maxLen) :
    Calls Tryz.prog 54 #[.string s, .func (.func 76) #[] #[]] w fun e w' => e = .returned (.bool (nameAll s)) ∧ w = w' := by
  refine (each_inv 76 #[] s (fun k wi => w = wi ∧ ∀ j (hj : j < s.size), j < k → nameByte s[j].toNat = true) (fun b w' => w = w' ∧ b = nameAll s) w hs nameF_enters ⟨rfl, fun j _ h => by omega⟩ ?_ ?_).mono ?_
  · rintro k wi hk ⟨rfl, hb⟩
    have hlt := s[k].toNat_lt
    refine (nameF_any (s[k].toNat : Int) w (by omega) (by omega)).mono ?_
    rintro e w1 ⟨rfl, rfl⟩
    refine ⟨_, rfl, fun h => ⟨rfl, fun j hj hjk => ?_⟩, fun h => ⟨rfl, (all_false_at s _ k hk h).symm⟩⟩
    rcases Nat.lt_succ_iff_lt_or_eq.1 hjk with h' | rfl
    · exact hb j hj h'
    · exact h
  · rintro wi ⟨rfl, hb⟩
    exact ⟨rfl, (all_take_size s _ (fun j hj => hb j hj hj)).symm⟩
  · rintro e w' ⟨b, rfl, rfl, rfl⟩
    exact ⟨rfl, rfl⟩
set_option maxHeartbeats 400000 in
theorem name_any (s : ByteArray) (w : World) (hs : s.size ≤ maxLen) : Calls Tryz.prog 49 #[.string s] w fun e w' => e = .returned (.bool (nameOk s)) ∧ w = w' := by
  have hs' : s.size ≤ 9223372036854775807 := by simpa [maxLen] using hs
  by_cases h1 : s.size < 1
  · have hf : Hid (nameOk s = false) := by simp [Hid, nameOk]; omega
    go_enter Tryz.func49, Tryz.ntmps49
    go_wp2
    go_ret
    exact ⟨ret_bool hf.out.symm, rfl⟩
  · by_cases h2 : 64 < s.size
    · have hf : Hid (nameOk s = false) := by simp [Hid, nameOk]; omega
      go_enter Tryz.func49, Tryz.ntmps49
      go_wp2
      go_ret
      exact ⟨ret_bool hf.out.symm, rfl⟩
    · have hf : Hid (nameOk s = nameAll s) := by
        have e1 : decide (1 ≤ s.size) = true := by simp; omega
        have e2 : decide (s.size ≤ 64) = true := by simp; omega
        simp [Hid, nameOk, e1, e2]
      go_enter Tryz.func49, Tryz.ntmps49
      go_wp2_with fail
      refine (nameEach_any s _ hs).mono ?_
      rintro e w1 ⟨rfl, rfl⟩
      go_wp2
      go_ret
      exact ⟨ret_bool hf.out.symm, rfl⟩
end Go.Proofs.YtphoflcilpopgaaGreatDoor

set_option linter.unusedVariables false
set_option linter.unusedSimpArgs false
namespace Go.Proofs.YtphoflcilpopgaaGreatDoor
open Go.RowKit Go.Lib
/-- The first k bytes mixed with x. -/
def mixK (K : List UInt8) (x : UInt8) (k : Nat) : List UInt8 := (K.take k).map (· ^^^ x) ++ K.drop k
theorem mixK_zero (K : List UInt8) (x : UInt8) : mixK K x 0 = K := by simp [mixK]
theorem mixK_all (K : List UInt8) (x : UInt8) (k : Nat) (h : K.length ≤ k) : mixK K x k = K.map (· ^^^ x) := by
  simp [mixK, List.take_of_length_le h, List.drop_eq_nil_of_le h]
theorem mixK_length (K : List UInt8) (x : UInt8) (k : Nat) : (mixK K x k).length = K.length := by simp [mixK]; omega
theorem mixK_at (K : List UInt8) (x : UInt8) (k : Nat) (h : k < K.length) : (byteCells (mixK K x k)).toArray[k]? = some (.int .u8 (K[k].toNat : Int)) := by
  have hl : ((K.take k).map (· ^^^ x)).length = k := by simp; omega
  simp only [byteCells, mixK, List.map_append, List.getElem?_toArray]
  rw [List.getElem?_append_right (by simp; omega)]
  simp [h, Nat.min_eq_left (Nat.le_of_lt h)]
theorem mixK_set (K : List UInt8) (x : UInt8) (k : Nat) (h : k < K.length) : (byteCells (mixK K x k)).toArray.setIfInBounds k (.int .u8 ((K[k] ^^^ x).toNat : Int)) = (byteCells (mixK K x (k + 1))).toArray := by
  have hl : ((K.take k).map (· ^^^ x)).length = k := by simp; omega
  apply Array.ext'
  simp only [List.setIfInBounds_toArray]
  have hd := List.drop_eq_getElem_cons h
  simp only [byteCells, mixK]
  rw [hd, List.take_succ_eq_append_getElem h, List.map_append, List.map_append, List.map_append, List.set_append_right _ _ (by simp; omega)]
  simp only [List.length_map, List.length_take, Nat.min_eq_left (Nat.le_of_lt h), Nat.sub_self]
  simp only [List.map_cons, List.set_cons_zero, List.map_nil, List.map_append, List.append_assoc, List.cons_append, List.nil_append]
theorem u8_xor (a b : UInt8) : bits .xor .u8 (a.toNat : Int) (b.toNat : Int) = ((a ^^^ b).toNat : Int) := by
  have e : ∀ c : UInt8, (BitVec.ofInt 8 (c.toNat : Int)).toNat = c.toNat := fun c => by
    rw [BitVec.ofInt_natCast, BitVec.toNat_ofNat]; exact Nat.mod_eq_of_lt c.toNat_lt
  have hx : (a ^^^ b).toNat < 2 ^ 8 := (a ^^^ b).toNat_lt
  show IntKind.u8.wrap ((BitVec.ofInt 8 (a.toNat : Int) ^^^ BitVec.ofInt 8 (b.toNat : Int)).toNat : Int) = _
  rw [BitVec.toNat_xor, e, e, ← UInt8.toNat_xor]
  simp [IntKind.wrap, IntKind.bits, IntKind.signed] at hx ⊢
  omega
theorem conv_row {w : World} {g off cap : Nat} {bs : List UInt8} (h : ∀ j (hj : j < bs.length), w.cell? ⟨g, off + j, none⟩ = some (.int .u8 (bs[j].toNat : Int))) :
    (convert 81 9 (.slice (some ⟨g, off, none⟩) bs.length cap)).run Tryz.prog w = .ok (.string ⟨bs.toArray⟩) w :=
  Go.run_convert_bytes_back w 81 9 5 ⟨g, off, none⟩ cap bs Tryz.underlying81 Tryz.underlying5 Tryz.underlying9 (fun j hj => by
    have hadd : (⟨g, off, none⟩ : Addr).add j = ⟨g, off + j, none⟩ := by unfold Addr.add; split <;> simp_all
    rw [hadd]
    exact h j hj)
set_option maxRecDepth 100000 in
set_option maxHeartbeats 1000000 in
theorem mixed_any (g : Nat) (K : List UInt8) (x : UInt8) (w : World) (hK : K.length = 64) (hB : Blk w g 88 (byteCells K).toArray) :
    Calls Tryz.prog 52 #[.int .u8 (x.toNat : Int), .pointer (some ⟨g, 0, none⟩)] w fun e w' => e = .returned (.string ⟨(K.map (· ^^^ x)).toArray⟩) ∧ Below w.heap.size w w' := by
  obtain ⟨C, HC⟩ : ∃ C, Hid ((byteCells K).toArray = C) := ⟨_, rfl⟩
  rw [HC.out] at hB
  have hC : C.size = 64 := by rw [← HC.out]; simp [byteCells_length, hK]
  have ci : (Tryz.prog.info? 88).map (·.size) = some C.size := by rw [hC]; kernel_rfl
  have one : C.all (·.oneCell') = true := by
    rw [← HC.out, Array.all_eq_true]
    intro i hi
    exact bytes_one K _ (Array.mem_toList_iff.2 (Array.getElem_mem hi))
  have HB := hide (And.intro hB (And.intro hC (And.intro ci one))); clear hB hC ci one
  go_enter Tryz.func52, Tryz.ntmps52
  go_wp2_with (first | (refine wpList_load_row rfl 88 (.tmp 1) rfl g rfl 88 C (0, 0) _ (unhide HB).1 Tryz.underlying88 rfl (unhide HB).2.2.1 ?_) | (refine wpList_store_row rfl 88 (.tmp 4) (.tmp 6) rfl w.heap.size C rfl rfl 88 _ (heap_alloc_new w _) (unhide HB).2.2.1 (by rw [(unhide HB).2.1]; kernel_rfl) (unhide HB).2.2.2 ?_))
  go_loopw [7] (fun i wr => ∃ k : Nat, k ≤ 64 ∧ i = .int .i64 k ∧ Blk wr w.heap.size 88 (byteCells (mixK K x k)).toArray ∧ Below w.heap.size w wr) (fun i _ => 64 - (intOf i).toNat)
  case atStart =>
    refine ⟨0, by omega, rfl, ?_, ((Below.refl _ _).alloc (Nat.le_refl _) _).setRow (Nat.le_refl _) _⟩
    rw [mixK_zero, HC.out]
    exact setRow_heap _ _ _ _ _ _ (heap_alloc_new w _)
  case round =>
    obtain ⟨k, hk, rfl, hB, hb⟩ := hrel
    rcases Nat.lt_or_ge k 64 with hlt | hge
    · have c1 := (hB.cell k).trans (mixK_at K x k (by omega))
      have f1 := hB.frozen k
      generalize hy : K[k]'(by omega) = y at c1
      have Hx := hide (And.intro hy (And.intro hB hb)); clear hy hB hb
      go_wp2_with fail
      go_roundw
      case rel =>
        obtain ⟨hy, hB, hb⟩ := unhide Hx
        have h := hB.set_ k (.int .u8 (bits .xor .u8 (y.toNat : Int) (x.toNat : Int)))
        rw [u8_xor, ← hy, mixK_set K x k (by omega)] at h
        rw [u8_xor, ← hy]
        exact ⟨k + 1, by omega, by go_num, h, hb.setCell (Nat.le_refl _) _⟩
      case measure => simp [intOf]; omega
    · have hcv := conv_row (g := w.heap.size) (off := 0) (bs := K.map (· ^^^ x)) (cap := 64) (w := wr) (fun j hj => by
        have hj' : j < (mixK K x k).length := by rw [mixK_length]; simpa using hj
        rw [Nat.zero_add, hB.cell j]
        simp only [mixK_all K x k (by omega)]
        simp only [byteCells, List.getElem?_toArray, List.getElem?_map, List.getElem?_eq_getElem hj, Option.map_some])
      rw [show (K.map (· ^^^ x)).length = 64 from by simpa using hK] at hcv
      have Hx := hide hb; clear hB hb
      go_wp2_with fail
      go_ret
      exact ⟨rfl, unhide Hx⟩
/-- A key as a block. -/
def keyK (key : List UInt8) : List UInt8 := key ++ List.replicate (64 - key.length) 0
def keyS (key : List UInt8) : List UInt8 := if key.length ≤ 64 then key else shaL key
def macL (key msg : List UInt8) : List UInt8 := shaL ((keyK (keyS key)).map (· ^^^ 92) ++ shaL ((keyK (keyS key)).map (· ^^^ 54) ++ msg))
theorem keyS_length (key : List UInt8) : (keyS key).length ≤ 64 := by
  unfold keyS
  split
  · assumption
  · rw [shaL_length]; omega
theorem keyK_length {key : List UInt8} (h : key.length ≤ 64) : (keyK key).length = 64 := by simp [keyK]; omega
theorem macL_length (key msg : List UInt8) : (macL key msg).length = 32 := shaL_length _
theorem copyK (k : ByteArray) (h : k.size ≤ 64) : (List.take 0 (List.replicate 64 (Value.int .u8 0)) ++ byteCells (List.take k.size k.data.toList) ++ List.drop (0 + k.size) (List.replicate 64 (Value.int .u8 0))) = byteCells (keyK k.data.toList) := by
  have hl : k.data.toList.length = k.size := by simp
  rw [← hl, List.take_length]
  simp only [List.take_zero, List.nil_append, Nat.zero_add, List.drop_replicate, byteCells, keyK, List.map_append, List.map_replicate]
  rfl
set_option maxRecDepth 100000 in
set_option maxHeartbeats 1000000 in
theorem mac_any (key msg : ByteArray) (w : World) (hk : key.size ≤ 562949953421312) (hm : msg.size ≤ 281474976710656) (htab : TabOk w) (hbg : BeginOk w) :
    Calls Tryz.prog 22 #[.string key, .string msg] w fun e w' => e = .returned (.string ⟨(macL key.data.toList msg.data.toList).toArray⟩) ∧ Below w.heap.size w w' := by
  have hmf := run_mkf
  rcases Nat.lt_or_ge 64 key.size with h64 | h64
  · have hs := sum_any key w hk htab hbg
    have HT := hide (And.intro htab hbg)
    clear htab hbg
    go_enter Tryz.func22, Tryz.ntmps22
    go_wp2_with fail
    refine hs.mono ?_
    rintro e w0 ⟨rfl, hb0⟩
    have hkS : Hid (keyS key.data.toList = (shaB key).data.toList) := Lib.hid (by unfold keyS; rw [if_neg (by simpa using h64)]; rfl)
    have hk2 : (shaB key).size ≤ 64 := by rw [shaB_size]; omega
    obtain ⟨k2, Hk2⟩ : ∃ k, Hid (shaB key = k) := ⟨_, rfl⟩
    rw [Hk2.out] at hk2 hkS ⊢
    have HT0 := hide (And.intro ((unhide HT).1.below hb0 (unhide HT).1.lt) ((unhide HT).2.below hb0 (unhide HT).2.lt))
    have Hb0 := hide hb0
    clear hb0 hs
    go_wp2_with (first | (refine wpList_copy_str _ rfl (.tmp 12) (.tmp 13) rfl (Blk.new _ _ _) 0 64 64 _ rfl rfl k2.size (by omega) (by simp; omega) ?_; intro w1 hB1 hg1 hz1; have H1 := hide (And.intro hB1 (And.intro hg1 hz1)); clear hB1 hg1 hz1))
    have hB1 : Blk w1 w0.heap.size 88 (byteCells (keyK k2.data.toList)).toArray := by
      rw [← copyK k2 hk2]; exact (unhide H1).1
    have hb1 : Below w.heap.size w w1 := ((unhide Hb0).alloc (unhide Hb0).size _).grown (unhide H1).2.1 (by have := (unhide Hb0).size; simp <;> omega) (fun k hk => by cases hk; exact (unhide Hb0).size)
    have hb10 : Below w0.heap.size w0 w1 := ((Below.refl _ _).alloc (Nat.le_refl _) _).grown (unhide H1).2.1 (by simp) (fun k hk => by cases hk; exact Nat.le_refl _)
    have hT1 : TabOk w1 ∧ BeginOk w1 := ⟨(unhide HT0).1.below hb10 (unhide HT0).1.lt, (unhide HT0).2.below hb10 (unhide HT0).2.lt⟩
    have hkl : (keyK k2.data.toList).length = 64 := keyK_length (by simpa using hk2)
    have hm1 := mixed_any w0.heap.size (keyK k2.data.toList) 92 w1 hkl hB1
    have H2 := hide (And.intro hB1 (And.intro hb1 (And.intro hT1 hkl))); clear hB1 hb1 hb10 hT1 hkl H1
    refine hm1.mono ?_
    rintro e w2 ⟨rfl, hb2⟩
    have hB2 := (unhide H2).1.below hb2 (unhide H2).1.lt
    have hb2' : Below w.heap.size w w2 := (unhide H2).2.1.trans (hb2.mono (unhide H2).2.1.size)
    have hT2 : TabOk w2 ∧ BeginOk w2 := ⟨(unhide H2).2.2.1.1.below hb2 (unhide H2).2.2.1.1.lt, (unhide H2).2.2.1.2.below hb2 (unhide H2).2.2.1.2.lt⟩
    have hm2 := mixed_any w0.heap.size (keyK k2.data.toList) 54 w2 (unhide H2).2.2.2 hB2
    have H3 := hide (And.intro hb2' hT2); clear hb2 hB2 hb2' hT2 hm1
    go_wp2_with fail
    refine hm2.mono ?_
    rintro e w3 ⟨rfl, hb3⟩
    have hb3' : Below w.heap.size w w3 := (unhide H3).1.trans (hb3.mono (unhide H3).1.size)
    have hT3 : TabOk w3 ∧ BeginOk w3 := ⟨(unhide H3).2.1.below hb3 (unhide H3).2.1.lt, (unhide H3).2.2.below hb3 (unhide H3).2.2.lt⟩
    have hA : ((⟨((keyK k2.data.toList).map (· ^^^ 54)).toArray⟩ : ByteArray)).size = 64 := by simpa [ByteArray.size] using (unhide H2).2.2.2
    have hC : ((⟨((keyK k2.data.toList).map (· ^^^ 92)).toArray⟩ : ByteArray)).size = 64 := by simpa [ByteArray.size] using (unhide H2).2.2.2
    obtain ⟨A, HA⟩ : ∃ A, Hid ((⟨((keyK k2.data.toList).map (· ^^^ 54)).toArray⟩ : ByteArray) = A) := ⟨_, Lib.hid rfl⟩
    obtain ⟨C, HC⟩ : ∃ C, Hid ((⟨((keyK k2.data.toList).map (· ^^^ 92)).toArray⟩ : ByteArray) = C) := ⟨_, Lib.hid rfl⟩
    rw [HA.out] at hA ⊢
    rw [HC.out] at hC ⊢
    have hs3 := sum_any (A ++ msg) w3 (by rw [ByteArray.size_append]; omega) hT3.1 hT3.2
    have H4 := hide (And.intro hb3' hT3); clear hb3 hb3' hT3 hm2 H3
    go_wp2_with fail
    refine hs3.mono ?_
    rintro e w4 ⟨rfl, hb4⟩
    have hb4' : Below w.heap.size w w4 := (unhide H4).1.trans (hb4.mono (unhide H4).1.size)
    have hT4 : TabOk w4 ∧ BeginOk w4 := ⟨(unhide H4).2.1.below hb4 (unhide H4).2.1.lt, (unhide H4).2.2.below hb4 (unhide H4).2.2.lt⟩
    have hs4 := sum_any (C ++ shaB (A ++ msg)) w4 (by rw [ByteArray.size_append, shaB_size]; omega) hT4.1 hT4.2
    have hsz := shaB_size (A ++ msg)
    have H5 := hide (And.intro hb4' hT4); clear hb4 hb4' hT4 hs3 H4
    go_wp2_with fail
    refine hs4.mono ?_
    rintro e w5 ⟨rfl, hb5⟩
    go_wp2_with fail
    go_ret
    refine ⟨ret_str ?_, (unhide H5).1.trans (hb5.mono (unhide H5).1.size)⟩
    unfold macL
    rw [hkS.out, ← HA.out, ← HC.out]
    simp only [shaB, ByteArray.data_append, Array.toList_append]
  · obtain ⟨k2, rfl⟩ : ∃ k, k = key := ⟨_, rfl⟩
    obtain ⟨w0, rfl⟩ : ∃ k, k = w := ⟨_, rfl⟩
    have hkS : Hid (keyS k2.data.toList = k2.data.toList) := Lib.hid (by unfold keyS; rw [if_pos (by simpa using h64)])
    have hk2 : k2.size ≤ 64 := h64
    have HT0 := hide (And.intro htab hbg)
    have Hb0 := hide (Below.refl w0.heap.size w0)
    clear htab hbg
    go_enter Tryz.func22, Tryz.ntmps22
    go_wp2_with (first | (refine wpList_copy_str _ rfl (.tmp 12) (.tmp 13) rfl (Blk.new _ _ _) 0 64 64 _ rfl rfl k2.size (by omega) (by simp; omega) ?_; intro w1 hB1 hg1 hz1; have H1 := hide (And.intro hB1 (And.intro hg1 hz1)); clear hB1 hg1 hz1))
    have hB1 : Blk w1 w0.heap.size 88 (byteCells (keyK k2.data.toList)).toArray := by
      rw [← copyK k2 hk2]; exact (unhide H1).1
    have hb1 : Below w0.heap.size w0 w1 := ((unhide Hb0).alloc (unhide Hb0).size _).grown (unhide H1).2.1 (by have := (unhide Hb0).size; simp <;> omega) (fun k hk => by cases hk; exact (unhide Hb0).size)
    have hb10 : Below w0.heap.size w0 w1 := ((Below.refl _ _).alloc (Nat.le_refl _) _).grown (unhide H1).2.1 (by simp) (fun k hk => by cases hk; exact Nat.le_refl _)
    have hT1 : TabOk w1 ∧ BeginOk w1 := ⟨(unhide HT0).1.below hb10 (unhide HT0).1.lt, (unhide HT0).2.below hb10 (unhide HT0).2.lt⟩
    have hkl : (keyK k2.data.toList).length = 64 := keyK_length (by simpa using hk2)
    have hm1 := mixed_any w0.heap.size (keyK k2.data.toList) 92 w1 hkl hB1
    have H2 := hide (And.intro hB1 (And.intro hb1 (And.intro hT1 hkl))); clear hB1 hb1 hb10 hT1 hkl H1
    refine hm1.mono ?_
    rintro e w2 ⟨rfl, hb2⟩
    have hB2 := (unhide H2).1.below hb2 (unhide H2).1.lt
    have hb2' : Below w0.heap.size w0 w2 := (unhide H2).2.1.trans (hb2.mono (unhide H2).2.1.size)
    have hT2 : TabOk w2 ∧ BeginOk w2 := ⟨(unhide H2).2.2.1.1.below hb2 (unhide H2).2.2.1.1.lt, (unhide H2).2.2.1.2.below hb2 (unhide H2).2.2.1.2.lt⟩
    have hm2 := mixed_any w0.heap.size (keyK k2.data.toList) 54 w2 (unhide H2).2.2.2 hB2
    have H3 := hide (And.intro hb2' hT2); clear hb2 hB2 hb2' hT2 hm1
    go_wp2_with fail
    refine hm2.mono ?_
    rintro e w3 ⟨rfl, hb3⟩
    have hb3' : Below w0.heap.size w0 w3 := (unhide H3).1.trans (hb3.mono (unhide H3).1.size)
    have hT3 : TabOk w3 ∧ BeginOk w3 := ⟨(unhide H3).2.1.below hb3 (unhide H3).2.1.lt, (unhide H3).2.2.below hb3 (unhide H3).2.2.lt⟩
    have hA : ((⟨((keyK k2.data.toList).map (· ^^^ 54)).toArray⟩ : ByteArray)).size = 64 := by simpa [ByteArray.size] using (unhide H2).2.2.2
    have hC : ((⟨((keyK k2.data.toList).map (· ^^^ 92)).toArray⟩ : ByteArray)).size = 64 := by simpa [ByteArray.size] using (unhide H2).2.2.2
    obtain ⟨A, HA⟩ : ∃ A, Hid ((⟨((keyK k2.data.toList).map (· ^^^ 54)).toArray⟩ : ByteArray) = A) := ⟨_, Lib.hid rfl⟩
    obtain ⟨C, HC⟩ : ∃ C, Hid ((⟨((keyK k2.data.toList).map (· ^^^ 92)).toArray⟩ : ByteArray) = C) := ⟨_, Lib.hid rfl⟩
    rw [HA.out] at hA ⊢
    rw [HC.out] at hC ⊢
    have hs3 := sum_any (A ++ msg) w3 (by rw [ByteArray.size_append]; omega) hT3.1 hT3.2
    have H4 := hide (And.intro hb3' hT3); clear hb3 hb3' hT3 hm2 H3
    go_wp2_with fail
    refine hs3.mono ?_
    rintro e w4 ⟨rfl, hb4⟩
    have hb4' : Below w0.heap.size w0 w4 := (unhide H4).1.trans (hb4.mono (unhide H4).1.size)
    have hT4 : TabOk w4 ∧ BeginOk w4 := ⟨(unhide H4).2.1.below hb4 (unhide H4).2.1.lt, (unhide H4).2.2.below hb4 (unhide H4).2.2.lt⟩
    have hs4 := sum_any (C ++ shaB (A ++ msg)) w4 (by rw [ByteArray.size_append, shaB_size]; omega) hT4.1 hT4.2
    have hsz := shaB_size (A ++ msg)
    have H5 := hide (And.intro hb4' hT4); clear hb4 hb4' hT4 hs3 H4
    go_wp2_with fail
    refine hs4.mono ?_
    rintro e w5 ⟨rfl, hb5⟩
    go_wp2_with fail
    go_ret
    refine ⟨ret_str ?_, (unhide H5).1.trans (hb5.mono (unhide H5).1.size)⟩
    unfold macL
    rw [hkS.out, ← HA.out, ← HC.out]
    simp only [shaB, ByteArray.data_append, Array.toList_append]
end Go.Proofs.YtphoflcilpopgaaGreatDoor

set_option linter.unusedVariables false
set_option linter.unusedSimpArgs false
namespace Go.Proofs.YtphoflcilpopgaaGreatDoor
open Go.RowKit Go.Lib
/-- "annals key", in bytes. -/
def keyWord : List UInt8 := [97, 110, 110, 97, 108, 115, 32, 107, 101, 121]
def keyIDL (name secret : List UInt8) : List UInt8 := (shaL (name ++ [10, 2] ++ macL secret keyWord)).take 4
theorem keyIDL_length (name secret : List UInt8) : (keyIDL name secret).length = 4 := by simp [keyIDL, shaL_length]
set_option maxRecDepth 100000 in
set_option maxHeartbeats 1000000 in
theorem keyID_any (name secret : ByteArray) (w : World) (hn : name.size ≤ 281474976710656) (hs : secret.size ≤ 562949953421312) (htab : TabOk w) (hbg : BeginOk w) :
    Calls Tryz.prog 50 #[.string name, .string secret] w fun e w' => e = .returned (.string ⟨(keyIDL name.data.toList secret.data.toList).toArray⟩) ∧ Below w.heap.size w w' := by
  have hm := mac_any secret ⟨#[97, 110, 110, 97, 108, 115, 32, 107, 101, 121]⟩ w (by omega) (by decide) htab hbg
  have HT := hide (And.intro htab hbg)
  clear htab hbg
  have hkw : Hid ((⟨#[97, 110, 110, 97, 108, 115, 32, 107, 101, 121]⟩ : ByteArray).data.toList = keyWord) := Lib.hid rfl
  have hlen := macL_length secret.data.toList (⟨#[97, 110, 110, 97, 108, 115, 32, 107, 101, 121]⟩ : ByteArray).data.toList
  go_enter Tryz.func50, Tryz.ntmps50
  go_wp2_with fail
  refine hm.mono ?_
  rintro e w1 ⟨rfl, hb1⟩
  obtain ⟨M, HM⟩ : ∃ M, Hid ((⟨(macL secret.data.toList (⟨#[97, 110, 110, 97, 108, 115, 32, 107, 101, 121]⟩ : ByteArray).data.toList).toArray⟩ : ByteArray) = M) := ⟨_, Lib.hid rfl⟩
  have hMs : M.size = 32 := by rw [← HM.out]; simpa [ByteArray.size] using hlen
  rw [HM.out]
  have hs1 := sum_any (name ++ ⟨#[10, 2]⟩ ++ M) w1 (by rw [ByteArray.size_append, ByteArray.size_append, show (⟨#[10, 2]⟩ : ByteArray).size = 2 from rfl]; omega) ((unhide HT).1.below hb1 (unhide HT).1.lt) ((unhide HT).2.below hb1 (unhide HT).2.lt)
  have hsz := shaB_size (name ++ ⟨#[10, 2]⟩ ++ M)
  have H1 := hide hb1; clear hb1 hm hlen
  go_wp2_with fail
  refine hs1.mono ?_
  rintro e w2 ⟨rfl, hb2⟩
  clear hs1
  go_wp2_with fail
  go_ret
  refine ⟨ret_str ?_, (unhide H1).trans (hb2.mono (unhide H1).size)⟩
  apply ByteArray.ext
  apply Array.ext'
  rw [show (shaB (name ++ ⟨#[10, 2]⟩ ++ M)).extract 0 4 = (shaB (name ++ ⟨#[10, 2]⟩ ++ M)).extract 0 4 from rfl, extract_list _ _ _ (by rw [hsz]; decide)]
  simp only [keyIDL, shaB, List.drop_zero, Nat.sub_zero, ByteArray.data_append, Array.toList_append, ← HM.out, hkw.out]
theorem xor_in (a b : UInt8) : 0 ≤ bits .xor .u8 (a.toNat : Int) (b.toNat : Int) ∧ bits .xor .u8 (a.toNat : Int) (b.toNat : Int) < 256 := by
  rw [u8_xor]
  have := (a ^^^ b).toNat_lt
  omega
theorem xor_back (a b : UInt8) : (bits .xor .u8 (a.toNat : Int) (b.toNat : Int)).toNat.toUInt8 = a ^^^ b := by
  rw [u8_xor, Int.toNat_natCast]
  simp
theorem keyK_take (k2 : ByteArray) (x : UInt8) (k : Nat) (c : UInt8) (h64 : k2.size ≤ 64) (hk : k < 64) (hc : c = if h : k < k2.size then k2[k] else 0) :
    ((keyK k2.data.toList).map (· ^^^ x)).take (k + 1) = ((keyK k2.data.toList).map (· ^^^ x)).take k ++ [c ^^^ x] := by
  have hl : (keyK k2.data.toList).length = 64 := keyK_length (by simpa using h64)
  have hkm : k < ((keyK k2.data.toList).map (· ^^^ x)).length := by simpa [hl] using hk
  rw [List.take_succ_eq_append_getElem hkm]
  congr 2
  rw [List.getElem_map]
  congr 1
  rw [hc]
  simp only [keyK]
  split
  · rename_i h
    rw [List.getElem_append_left (by simpa using h)]
    simp [ByteArray.getElem_eq_getElem_data]
  · rename_i h
    rw [List.getElem_append_right (by simpa using h)]
    simp
set_option maxRecDepth 100000 in
set_option maxHeartbeats 1000000 in
theorem keyed_any (key : ByteArray) (x : UInt8) (w : World) (hk : key.size ≤ 35184372088832) (htab : TabOkR w) (hf : FirstOk w) :
    Calls Tryz.prog 36 #[.string key, .int .u8 (x.toNat : Int)] w fun e w' => e = .returned (.string ⟨((keyK (keyS key.data.toList)).map (· ^^^ x)).toArray⟩) ∧ Below w.heap.size w w' := by
  have hx : (bits .xor .u8 0 (x.toNat : Int)) = ((0 ^^^ x).toNat : Int) := u8_xor 0 x
  rcases Nat.lt_or_ge 64 key.size with h64 | h64
  · have hs := rsum_any key w hk htab hf
    clear htab hf
    go_enter Tryz.func36, Tryz.ntmps36
    go_wp2_with fail
    refine hs.mono ?_
    rintro e w0 ⟨rfl, hb0⟩
    have hkS : Hid (keyS key.data.toList = (shaB key).data.toList) := Lib.hid (by unfold keyS; rw [if_neg (by simpa using h64)]; rfl)
    have hk2 : (shaB key).size ≤ 64 := by rw [shaB_size]; omega
    obtain ⟨k2, Hk2⟩ : ∃ k, Hid (shaB key = k) := ⟨_, Lib.hid rfl⟩
    rw [Hk2.out] at hk2 hkS ⊢
    have Hb0 := hide hb0
    clear hb0 hs
    go_wp2_with fail
    go_loopw [5, 6] (fun b i wr => ∃ k : Nat, k ≤ 64 ∧ i = .int .i64 k ∧ OwnB wr w.heap.size b (((keyK k2.data.toList).map (· ^^^ x)).take k) ∧ Below w.heap.size w wr) (fun _ i _ => 64 - (intOf i).toNat)
    case atStart => exact ⟨0, by omega, rfl, OwnB.nil _ _, unhide Hb0⟩
    case round =>
      obtain ⟨k, hk, rfl, hO, hb⟩ := hrel
      rcases Nat.lt_or_ge k 64 with hlt | hge
      · have Hx := hide (And.intro hO hb); clear hO hb
        have hlen : (((keyK k2.data.toList).map (· ^^^ x)).take k).length + 1 ≤ 140737488355328 := by simp; omega
        rcases Nat.lt_or_ge k k2.size with hlk | hlk
        · go_wp2_with (first | (at_builtin; refine wpList_app1 wr rfl (.tmp 24) (.tmp 28) rfl (unhide Hx).1 rfl rfl (xor_in _ _).1 (xor_in _ _).2 hlen (unhide Hx).2.size ?_; intro v' w' hO' hg hat; have HO' := hide (And.intro hO' (And.intro hg hat)); clear hO' hg hat))
          go_roundw
          case rel =>
            obtain ⟨hO', hg, hat⟩ := unhide HO'
            obtain ⟨hO, hb⟩ := unhide Hx
            rw [xor_back] at hO'
            refine ⟨k + 1, by omega, by go_num, ?_, (hb.alloc hb.size _).grown hg (by simp; have := hb.size; omega) (fun k hk => (hO.lt k hk).1)⟩
            rw [keyK_take k2 x k k2[k] hk2 hlt (by rw [dif_pos hlk])]
            exact hO'
          case measure => simp [intOf]; omega
        · go_wp2_with (first | (at_builtin; refine wpList_app1 wr rfl (.tmp 24) (.tmp 28) rfl (unhide Hx).1 rfl rfl (Int.natCast_nonneg _) (by have := x.toNat_lt; omega) hlen (unhide Hx).2.size ?_; intro v' w' hO' hg hat; have HO' := hide (And.intro hO' (And.intro hg hat)); clear hO' hg hat))
          go_roundw
          case rel =>
            obtain ⟨hO', hg, hat⟩ := unhide HO'
            obtain ⟨hO, hb⟩ := unhide Hx
            refine ⟨k + 1, by omega, by go_num, ?_, (hb.alloc hb.size _).grown hg (by simp; have := hb.size; omega) (fun k hk => (hO.lt k hk).1)⟩
            rw [keyK_take k2 x k 0 hk2 hlt (by rw [dif_neg (by omega)])]
            simpa using hO'
          case measure => simp [intOf]; omega
      · have hcv := conv_own hO
        have Hx := hide hb; clear hb hO
        go_wp2_with fail
        go_ret
        refine ⟨ret_str ?_, unhide Hx⟩
        rw [hkS.out, List.take_of_length_le (by rw [List.length_map, keyK_length (by simpa using hk2)]; exact hge)]
  · obtain ⟨k2, rfl⟩ : ∃ k, k = key := ⟨_, rfl⟩
    have hkS : Hid (keyS k2.data.toList = k2.data.toList) := Lib.hid (by unfold keyS; rw [if_pos (by simpa using h64)])
    have hk2 : k2.size ≤ 64 := h64
    have Hb0 := hide (Below.refl w.heap.size w)
    clear htab hf
    go_enter Tryz.func36, Tryz.ntmps36
    go_wp2_with fail
    go_loopw [5, 6] (fun b i wr => ∃ k : Nat, k ≤ 64 ∧ i = .int .i64 k ∧ OwnB wr w.heap.size b (((keyK k2.data.toList).map (· ^^^ x)).take k) ∧ Below w.heap.size w wr) (fun _ i _ => 64 - (intOf i).toNat)
    case atStart => exact ⟨0, by omega, rfl, OwnB.nil _ _, unhide Hb0⟩
    case round =>
      obtain ⟨k, hk, rfl, hO, hb⟩ := hrel
      rcases Nat.lt_or_ge k 64 with hlt | hge
      · have Hx := hide (And.intro hO hb); clear hO hb
        have hlen : (((keyK k2.data.toList).map (· ^^^ x)).take k).length + 1 ≤ 140737488355328 := by simp; omega
        rcases Nat.lt_or_ge k k2.size with hlk | hlk
        · go_wp2_with (first | (at_builtin; refine wpList_app1 wr rfl (.tmp 24) (.tmp 28) rfl (unhide Hx).1 rfl rfl (xor_in _ _).1 (xor_in _ _).2 hlen (unhide Hx).2.size ?_; intro v' w' hO' hg hat; have HO' := hide (And.intro hO' (And.intro hg hat)); clear hO' hg hat))
          go_roundw
          case rel =>
            obtain ⟨hO', hg, hat⟩ := unhide HO'
            obtain ⟨hO, hb⟩ := unhide Hx
            rw [xor_back] at hO'
            refine ⟨k + 1, by omega, by go_num, ?_, (hb.alloc hb.size _).grown hg (by simp; have := hb.size; omega) (fun k hk => (hO.lt k hk).1)⟩
            rw [keyK_take k2 x k k2[k] hk2 hlt (by rw [dif_pos hlk])]
            exact hO'
          case measure => simp [intOf]; omega
        · go_wp2_with (first | (at_builtin; refine wpList_app1 wr rfl (.tmp 24) (.tmp 28) rfl (unhide Hx).1 rfl rfl (Int.natCast_nonneg _) (by have := x.toNat_lt; omega) hlen (unhide Hx).2.size ?_; intro v' w' hO' hg hat; have HO' := hide (And.intro hO' (And.intro hg hat)); clear hO' hg hat))
          go_roundw
          case rel =>
            obtain ⟨hO', hg, hat⟩ := unhide HO'
            obtain ⟨hO, hb⟩ := unhide Hx
            refine ⟨k + 1, by omega, by go_num, ?_, (hb.alloc hb.size _).grown hg (by simp; have := hb.size; omega) (fun k hk => (hO.lt k hk).1)⟩
            rw [keyK_take k2 x k 0 hk2 hlt (by rw [dif_neg (by omega)])]
            simpa using hO'
          case measure => simp [intOf]; omega
      · have hcv := conv_own hO
        have Hx := hide hb; clear hb hO
        go_wp2_with fail
        go_ret
        refine ⟨ret_str ?_, unhide Hx⟩
        rw [hkS.out, List.take_of_length_le (by rw [List.length_map, keyK_length (by simpa using hk2)]; exact hge)]
end Go.Proofs.YtphoflcilpopgaaGreatDoor

set_option linter.unusedVariables false
set_option linter.unusedSimpArgs false
namespace Go.Proofs.YtphoflcilpopgaaGreatDoor
open Go.RowKit
set_option maxRecDepth 100000 in
set_option maxHeartbeats 1000000 in
theorem rname_any (s : ByteArray) (w : World) (hs : s.size ≤ maxLen) : Calls Tryz.prog 40 #[.string s] w fun e w' => e = .returned (.bool (nameOk s)) ∧ w = w' := by
  have hs' : s.size ≤ 9223372036854775807 := by simpa [maxLen] using hs
  go_enter Tryz.func40, Tryz.ntmps40
  go_wp2_with fail
  go_loopw [3] (fun i wr => ∃ k : Nat, k ≤ s.size ∧ i = .int .i64 k ∧ Hid (w = wr) ∧ Hid (∀ j (hj : j < s.size), j < k → nameByte s[j].toNat = true)) (fun i _ => s.size - (intOf i).toNat)
  case atStart => exact ⟨0, by omega, rfl, rfl, fun j _ h => by omega⟩
  case round =>
    obtain ⟨k, hk, rfl, hw, hb⟩ := hrel
    obtain rfl := hw.out
    rcases Nat.lt_or_ge k s.size with hlt | hge
    · have hu := s[k].toNat_lt
      by_cases h1 : s[k].toNat < 33
      · have hf : Hid (nameOk s = false) := by
          have : nameAll s = false := all_false_at s _ k hlt (by simp [nameByte]; omega)
          simp [Hid, nameOk, this]
        go_wp2_with fail
        go_ret
        exact ⟨ret_bool hf.out.symm, rfl⟩
      · by_cases h2 : 126 < s[k].toNat
        · have hf : Hid (nameOk s = false) := by
            have : nameAll s = false := all_false_at s _ k hlt (by simp [nameByte]; omega)
            simp [Hid, nameOk, this]
          go_wp2_with fail
          go_ret
          exact ⟨ret_bool hf.out.symm, rfl⟩
        · by_cases h3 : s[k].toNat = 43
          · have hf : Hid (nameOk s = false) := by
              have : nameAll s = false := all_false_at s _ k hlt (by simp [nameByte, h3])
              simp [Hid, nameOk, this]
            go_wp2_with fail
            go_ret
            exact ⟨ret_bool hf.out.symm, rfl⟩
          · have ht : Hid (nameByte s[k].toNat = true) := by simp [Hid, nameByte]; omega
            have h3' : ((s[k].toNat : Int) == 43) = false := by simp; omega
            go_wp2_with fail
            refine ⟨⟨k + 1, by omega, by go_num, Lib.hid trivial, fun j hj hjk => ?_⟩, by simp [intOf]; omega⟩
            rcases Nat.lt_succ_iff_lt_or_eq.1 hjk with h' | rfl
            · exact hb.out j hj h'
            · exact ht.out
    · have ha : Hid (nameAll s = true) := all_take_size s _ (fun j hj => hb.out j hj (by omega))
      have hz : Hid (nameOk s = (decide (1 ≤ s.size) && decide (s.size ≤ 64))) := by simp [Hid, nameOk, ha.out]
      by_cases h0 : 1 ≤ s.size
      · have hz : Hid (nameOk s = decide (((s.size : Nat) : Int) ≤ 64)) := by
          rw [Hid, hz.out]; simp [h0]; omega
        clear hb ha
        go_wp2_with fail
        go_ret
        exact ⟨ret_bool hz.out.symm, rfl⟩
      · have hz : Hid (nameOk s = false) := by rw [Hid, hz.out]; simp [h0]
        clear hb ha
        go_wp2_with fail
        go_ret
        exact ⟨ret_bool hz.out.symm, rfl⟩
end Go.Proofs.YtphoflcilpopgaaGreatDoor

set_option linter.unusedVariables false
set_option linter.unusedSimpArgs false
namespace Go.Proofs.YtphoflcilpopgaaGreatDoor
open Go.RowKit
end Go.Proofs.YtphoflcilpopgaaGreatDoor

set_option linter.unusedVariables false
set_option linter.unusedSimpArgs false
namespace Go.Proofs.YtphoflcilpopgaaGreatDoor
open Go.RowKit Go.Lib
set_option maxRecDepth 100000 in
set_option maxHeartbeats 1000000 in
theorem rmac_any (key msg : ByteArray) (w : World) (hk : key.size ≤ 35184372088832) (hm : msg.size ≤ 17592186044416) (htab : TabOkR w) (hf : FirstOk w) :
    Calls Tryz.prog 14 #[.string key, .string msg] w fun e w' => e = .returned (.string ⟨(macL key.data.toList msg.data.toList).toArray⟩) ∧ Below w.heap.size w w' := by
  have h1 := keyed_any key 54 w hk htab hf
  have hkl : (keyK (keyS key.data.toList)).length = 64 := keyK_length (keyS_length _)
  have hA : ((⟨((keyK (keyS key.data.toList)).map (· ^^^ 54)).toArray⟩ : ByteArray)).size = 64 := by simpa [ByteArray.size] using hkl
  have hC : ((⟨((keyK (keyS key.data.toList)).map (· ^^^ 92)).toArray⟩ : ByteArray)).size = 64 := by simpa [ByteArray.size] using hkl
  obtain ⟨A, HA⟩ : ∃ A, Hid ((⟨((keyK (keyS key.data.toList)).map (· ^^^ 54)).toArray⟩ : ByteArray) = A) := ⟨_, Lib.hid rfl⟩
  obtain ⟨C, HC⟩ : ∃ C, Hid ((⟨((keyK (keyS key.data.toList)).map (· ^^^ 92)).toArray⟩ : ByteArray) = C) := ⟨_, Lib.hid rfl⟩
  rw [HA.out] at hA h1
  rw [HC.out] at hC
  have HT := hide (And.intro htab hf)
  clear htab hf
  go_enter Tryz.func14, Tryz.ntmps14
  go_wp2_with fail
  refine h1.mono ?_
  rintro e w1 ⟨rfl, hb1⟩
  have hs1 := rsum_any (A ++ msg) w1 (by rw [ByteArray.size_append]; omega) ((unhide HT).1.below hb1 (unhide HT).1.lt) ((unhide HT).2.below hb1 (unhide HT).2.lt)
  have H1 := hide (And.intro hb1 (And.intro ((unhide HT).1.below hb1 (unhide HT).1.lt) ((unhide HT).2.below hb1 (unhide HT).2.lt))); clear hb1 h1
  go_wp2_with fail
  refine hs1.mono ?_
  rintro e w2 ⟨rfl, hb2⟩
  have hb2' : Below w.heap.size w w2 := (unhide H1).1.trans (hb2.mono (unhide H1).1.size)
  have hT2 := And.intro ((unhide H1).2.1.below hb2 (unhide H1).2.1.lt) ((unhide H1).2.2.below hb2 (unhide H1).2.2.lt)
  have h2 := keyed_any key 92 w2 hk hT2.1 hT2.2
  rw [HC.out] at h2
  have H2 := hide (And.intro hb2' hT2); clear hb2 hb2' hT2 hs1
  go_wp2_with fail
  refine h2.mono ?_
  rintro e w3 ⟨rfl, hb3⟩
  have hb3' : Below w.heap.size w w3 := (unhide H2).1.trans (hb3.mono (unhide H2).1.size)
  have hT3 := And.intro ((unhide H2).2.1.below hb3 (unhide H2).2.1.lt) ((unhide H2).2.2.below hb3 (unhide H2).2.2.lt)
  have hs3 := rsum_any (C ++ shaB (A ++ msg)) w3 (by rw [ByteArray.size_append, shaB_size]; omega) hT3.1 hT3.2
  have hsz := shaB_size (A ++ msg)
  have H3 := hide hb3'; clear hb3 hb3' hT3 h2 H2
  go_wp2_with fail
  refine hs3.mono ?_
  rintro e w4 ⟨rfl, hb4⟩
  go_wp2_with fail
  go_ret
  refine ⟨ret_str ?_, (unhide H3).trans (hb4.mono (unhide H3).size)⟩
  unfold macL
  rw [← HA.out, ← HC.out]
  simp only [shaB, ByteArray.data_append, Array.toList_append]
set_option maxRecDepth 100000 in
set_option maxHeartbeats 1000000 in
theorem rkeyID_any (name secret : ByteArray) (w : World) (hn : name.size ≤ 17592186044416) (hs : secret.size ≤ 35184372088832) (htab : TabOkR w) (hf : FirstOk w) :
    Calls Tryz.prog 63 #[.string name, .string secret] w fun e w' => e = .returned (.string ⟨(keyIDL name.data.toList secret.data.toList).toArray⟩) ∧ Below w.heap.size w w' := by
  have hm := rmac_any secret ⟨#[97, 110, 110, 97, 108, 115, 32, 107, 101, 121]⟩ w (by omega) (by decide) htab hf
  have HT := hide (And.intro htab hf)
  clear htab hf
  have hkw : Hid ((⟨#[97, 110, 110, 97, 108, 115, 32, 107, 101, 121]⟩ : ByteArray).data.toList = keyWord) := Lib.hid rfl
  have hlen := macL_length secret.data.toList (⟨#[97, 110, 110, 97, 108, 115, 32, 107, 101, 121]⟩ : ByteArray).data.toList
  go_enter Tryz.func63, Tryz.ntmps63
  go_wp2_with fail
  refine hm.mono ?_
  rintro e w1 ⟨rfl, hb1⟩
  obtain ⟨M, HM⟩ : ∃ M, Hid ((⟨(macL secret.data.toList (⟨#[97, 110, 110, 97, 108, 115, 32, 107, 101, 121]⟩ : ByteArray).data.toList).toArray⟩ : ByteArray) = M) := ⟨_, Lib.hid rfl⟩
  have hMs : M.size = 32 := by rw [← HM.out]; simpa [ByteArray.size] using hlen
  rw [HM.out]
  have hs1 := rsum_any (name ++ ⟨#[10, 2]⟩ ++ M) w1 (by rw [ByteArray.size_append, ByteArray.size_append, show (⟨#[10, 2]⟩ : ByteArray).size = 2 from rfl]; omega) ((unhide HT).1.below hb1 (unhide HT).1.lt) ((unhide HT).2.below hb1 (unhide HT).2.lt)
  have hsz := shaB_size (name ++ ⟨#[10, 2]⟩ ++ M)
  have H1 := hide hb1; clear hb1 hm hlen
  go_wp2_with fail
  refine hs1.mono ?_
  rintro e w2 ⟨rfl, hb2⟩
  clear hs1
  go_wp2_with fail
  go_ret
  refine ⟨ret_str ?_, (unhide H1).trans (hb2.mono (unhide H1).size)⟩
  apply ByteArray.ext
  apply Array.ext'
  rw [extract_list _ _ _ (by rw [hsz]; decide)]
  simp only [keyIDL, shaB, List.drop_zero, Nat.sub_zero, ByteArray.data_append, Array.toList_append, ← HM.out, hkw.out]
end Go.Proofs.YtphoflcilpopgaaGreatDoor

set_option linter.unusedVariables false
set_option linter.unusedSimpArgs false
namespace Go.Proofs.YtphoflcilpopgaaGreatDoor
open Go.RowKit Go.Lib
/-- What both sides answer for a key: its four bytes, or the refusal. -/
def idV (n s : ByteArray) : Value := if nameOk n = true then .tuple #[.string ⟨(keyIDL n.data.toList s.data.toList).toArray⟩, .int .i64 0] else .tuple #[.string ⟨#[]⟩, .int .i64 203]
set_option maxRecDepth 100000 in
set_option maxHeartbeats 400000 in
theorem rID_any (n s : ByteArray) (w : World) (hn : n.size ≤ 17592186044416) (hs : s.size ≤ 35184372088832) (htab : TabOkR w) (hf : FirstOk w) :
    Calls Tryz.prog 34 #[.agg #[.string n, .string s]] w fun e w' => e = .returned (idV n s) ∧ Below w.heap.size w w' := by
  by_cases hno : nameOk n = true
  · have Hid1 : Hid (idV n s = .tuple #[.string ⟨(keyIDL n.data.toList s.data.toList).toArray⟩, .int .i64 0]) := by unfold idV; rw [if_pos hno]; rfl
    have Hno := hide hno; clear hno
    have hk := fun (o : Obj) => rkeyID_any n s (w.alloc o) hn hs (TabOkR.below (B := w.heap.size) htab ((Below.refl _ _).alloc (Nat.le_refl _) o) htab.lt) (FirstOk.below (B := w.heap.size) hf ((Below.refl _ _).alloc (Nat.le_refl _) o) hf.lt)
    have Hk := hide hk
    clear hk htab hf
    go_enter Tryz.func34, Tryz.ntmps34
    go_wp2_with fail
    refine (rname_any _ _ (by simp only [maxLen]; omega)).mono ?_
    rintro e w1 ⟨rfl, rfl⟩
    rw [unhide Hno]
    go_wp2_with fail
    refine (unhide Hk _).mono ?_
    rintro e w1 ⟨rfl, hb1⟩
    go_wp2_with fail
    go_ret2
    exact ⟨by rw [Hid1.out]; rfl, ((Below.refl _ _).alloc (Nat.le_refl _) _).trans (hb1.mono (by simp))⟩
  · have hno' : nameOk n = false := by simpa using hno
    have Hid1 : Hid (idV n s = .tuple #[.string ⟨#[]⟩, .int .i64 203]) := by unfold idV; rw [if_neg hno]; rfl
    have Hno := hide hno'; clear hno hno' htab hf
    go_enter Tryz.func34, Tryz.ntmps34
    go_wp2_with fail
    refine (rname_any _ _ (by simp only [maxLen]; omega)).mono ?_
    rintro e w1 ⟨rfl, rfl⟩
    rw [unhide Hno]
    go_wp2_with fail
    go_ret2
    exact ⟨by rw [Hid1.out]; rfl, (Below.refl _ _).alloc (Nat.le_refl _) _⟩
end Go.Proofs.YtphoflcilpopgaaGreatDoor

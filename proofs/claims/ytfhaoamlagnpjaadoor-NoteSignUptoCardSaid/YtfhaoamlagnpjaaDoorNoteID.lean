/-
  CONTRACTS towards NoteID: both sides answer a key's four bytes, or refuse its name.
-/
import Derived.Test.YtfhaoamlagnpjaaDoorRows
import Derived.Test.YtfhaoamlagnpjaaDoorWd
import Derived.Test.YtfhaoamlagnpjaaDoorName
import Derived.Test.YtfhaoamlagnpjaaDoorRName
import Derived.Test.YtfhaoamlagnpjaaDoorNoteIDno
import Derived.Test.YtfhaoamlagnpjaaDoorKeyID
import Derived.StillTailTactics
set_option linter.unusedVariables false
set_option linter.unusedSimpArgs false
namespace Go.Proofs.YtfhaoamlagnpjaaDoor
open Go.RowKit Go.Lib
set_option maxRecDepth 100000 in
set_option maxHeartbeats 1000000 in
theorem rmac_any (key msg : ByteArray) (w : World) (hk : key.size ≤ 35184372088832) (hm : msg.size ≤ 17592186044416) (htab : TabOkR w) (hf : FirstOk w) :
    Calls Tryd.prog 72 #[.string key, .string msg] w fun e w' => e = .returned (.string ⟨(macL key.data.toList msg.data.toList).toArray⟩) ∧ Below w.heap.size w w' := by
  have h1 := keyed_any key 54 w hk htab hf
  have hkl : (keyK (keyS key.data.toList)).length = 64 := keyK_length (keyS_length _)
  have hA : ((⟨((keyK (keyS key.data.toList)).map (· ^^^ 54)).toArray⟩ : ByteArray)).size = 64 := by simpa [ByteArray.size] using hkl
  have hC : ((⟨((keyK (keyS key.data.toList)).map (· ^^^ 92)).toArray⟩ : ByteArray)).size = 64 := by simpa [ByteArray.size] using hkl
  obtain ⟨A, HA⟩ : ∃ A, Hid ((⟨((keyK (keyS key.data.toList)).map (· ^^^ 54)).toArray⟩ : ByteArray) = A) := ⟨_, Lib.hid rfl⟩
  obtain ⟨C, HC⟩ : ∃ C, Hid ((⟨((keyK (keyS key.data.toList)).map (· ^^^ 92)).toArray⟩ : ByteArray) = C) := ⟨_, Lib.hid rfl⟩
  rw [HA.out] at hA h1
  rw [HC.out] at hC
  have HT := hide (And.intro htab hf)
  clear htab hf
  go_enter Tryd.func72, Tryd.ntmps72
  go_wp2_with fail
  refine h1.mono ?_
  rintro e w1 ⟨rfl, hb1⟩
  have hs1 := rsum_any (A ++ msg) w1 (by rw [ByteArray.size_append]; omega) ((unhide HT).1.below hb1 (unhide HT).1.lt) ((unhide HT).2.below hb1 (unhide HT).2.lt)
  have H1 := hide (And.intro hb1 (And.intro ((unhide HT).1.below hb1 (unhide HT).1.lt) ((unhide HT).2.below hb1 (unhide HT).2.lt))); clear hb1 h1
  go_wp2_with fail
  refine hs1.mono ?_
  rintro e w2 ⟨rfl, hb2⟩
  have hb2' : Below w.heap.size w w2 := (unhide H1).1.trans (hb2.mono (unhide H1).1.size)
  have hT2 := And.intro ((unhide H1).2.1.below hb2 (unhide H1).2.1.lt) ((unhide H1).2.2.below hb2 (unhide H1).2.2.lt)
  have h2 := keyed_any key 92 w2 hk hT2.1 hT2.2
  rw [HC.out] at h2
  have H2 := hide (And.intro hb2' hT2); clear hb2 hb2' hT2 hs1
  go_wp2_with fail
  refine h2.mono ?_
  rintro e w3 ⟨rfl, hb3⟩
  have hb3' : Below w.heap.size w w3 := (unhide H2).1.trans (hb3.mono (unhide H2).1.size)
  have hT3 := And.intro ((unhide H2).2.1.below hb3 (unhide H2).2.1.lt) ((unhide H2).2.2.below hb3 (unhide H2).2.2.lt)
  have hs3 := rsum_any (C ++ shaB (A ++ msg)) w3 (by rw [ByteArray.size_append, shaB_size]; omega) hT3.1 hT3.2
  have hsz := shaB_size (A ++ msg)
  have H3 := hide hb3'; clear hb3 hb3' hT3 h2 H2
  go_wp2_with fail
  refine hs3.mono ?_
  rintro e w4 ⟨rfl, hb4⟩
  go_wp2_with fail
  go_ret
  refine ⟨ret_str ?_, (unhide H3).trans (hb4.mono (unhide H3).size)⟩
  unfold macL
  rw [← HA.out, ← HC.out]
  simp only [shaB, ByteArray.data_append, Array.toList_append]
set_option maxRecDepth 100000 in
set_option maxHeartbeats 1000000 in
theorem rkeyID_any (name secret : ByteArray) (w : World) (hn : name.size ≤ 17592186044416) (hs : secret.size ≤ 35184372088832) (htab : TabOkR w) (hf : FirstOk w) :
    Calls Tryd.prog 41 #[.string name, .string secret] w fun e w' => e = .returned (.string ⟨(keyIDL name.data.toList secret.data.toList).toArray⟩) ∧ Below w.heap.size w w' := by
  have hm := rmac_any secret ⟨#[97, 110, 110, 97, 108, 115, 32, 107, 101, 121]⟩ w (by omega) (by decide) htab hf
  have HT := hide (And.intro htab hf)
  clear htab hf
  have hkw : Hid ((⟨#[97, 110, 110, 97, 108, 115, 32, 107, 101, 121]⟩ : ByteArray).data.toList = keyWord) := Lib.hid rfl
  have hlen := macL_length secret.data.toList (⟨#[97, 110, 110, 97, 108, 115, 32, 107, 101, 121]⟩ : ByteArray).data.toList
  go_enter Tryd.func41, Tryd.ntmps41
  go_wp2_with fail
  refine hm.mono ?_
  rintro e w1 ⟨rfl, hb1⟩
  obtain ⟨M, HM⟩ : ∃ M, Hid ((⟨(macL secret.data.toList (⟨#[97, 110, 110, 97, 108, 115, 32, 107, 101, 121]⟩ : ByteArray).data.toList).toArray⟩ : ByteArray) = M) := ⟨_, Lib.hid rfl⟩
  have hMs : M.size = 32 := by rw [← HM.out]; simpa [ByteArray.size] using hlen
  rw [HM.out]
  have hs1 := rsum_any (name ++ ⟨#[10, 2]⟩ ++ M) w1 (by rw [ByteArray.size_append, ByteArray.size_append, show (⟨#[10, 2]⟩ : ByteArray).size = 2 from rfl]; omega) ((unhide HT).1.below hb1 (unhide HT).1.lt) ((unhide HT).2.below hb1 (unhide HT).2.lt)
  have hsz := shaB_size (name ++ ⟨#[10, 2]⟩ ++ M)
  have H1 := hide hb1; clear hb1 hm hlen
  go_wp2_with fail
  refine hs1.mono ?_
  rintro e w2 ⟨rfl, hb2⟩
  clear hs1
  go_wp2_with fail
  go_ret
  refine ⟨ret_str ?_, (unhide H1).trans (hb2.mono (unhide H1).size)⟩
  apply ByteArray.ext
  apply Array.ext'
  rw [extract_list _ _ _ (by rw [hsz]; decide)]
  simp only [keyIDL, shaB, List.drop_zero, Nat.sub_zero, ByteArray.data_append, Array.toList_append, ← HM.out, hkw.out]
end Go.Proofs.YtfhaoamlagnpjaaDoor

/-
  CONTRACTS of the document's answer for note: plain and whole.
-/
import Derived.Test.YtfhaoamlagnpjaaDoorRows
import Derived.Test.YtfhaoamlagnpjaaDoorWd
import Derived.Test.YtfhaoamlagnpjaaDoorShelf
import Derived.Test.YtfhaoamlagnpjaaDoorCopyStr
import Derived.Test.YtfhaoamlagnpjaaDoorWholeP
import Derived.Test.YtfhaoamlagnpjaaDoorWhole
import Derived.Lib.OthersKept
import Derived.Lib.RuneCountTail
set_option linter.unusedVariables false
set_option linter.unusedSimpArgs false
namespace Go.Proofs.YtfhaoamlagnpjaaDoor
open Go.RowKit Go.Lib
theorem plainB_end (nl : Bool) (s : ByteArray) (pos : Nat) (h : ¬ pos < s.size) : plainB nl s pos = true := by
  have hz : s.data.size = s.size := rfl
  unfold plainB
  rw [List.drop_eq_nil_of_le (by rw [Array.length_toList]; omega)]
  rfl
theorem plainB_in (nl : Bool) (s : ByteArray) (pos : Nat) (h : pos < s.size) : plainB nl s pos = (okB nl (s[pos]).toNat && plainB nl s (pos + 1)) := by
  rw [plainB_step nl s pos h, get_at s pos h]
set_option maxRecDepth 100000 in
set_option maxHeartbeats 1000000 in
theorem rplain_any (nl : Bool) (s : ByteArray) (w : World) (hs : s.size ≤ maxLen) :
    Calls Tryd.prog 49 #[.string s, .bool nl] w fun e w' => e = .returned (.bool (plainB nl s 0)) ∧ w = w' := by
  have hs' : s.size ≤ 9223372036854775807 := by simpa [maxLen] using hs
  go_enter Tryd.func49, Tryd.ntmps49
  go_wp2_with fail
  go_loopw [5] (fun i wr => ∃ (k : Nat), i = .int .i64 k ∧ k ≤ s.size ∧ Hid (w = wr) ∧ Hid (plainB nl s k = plainB nl s 0)) (fun i _ => s.size - (RowKit.intOf i).toNat)
  case atStart => exact ⟨0, rfl, by omega, Lib.hid rfl, Lib.hid rfl⟩
  case round =>
    obtain ⟨k, rfl, hk, hw, hacc⟩ := hrel
    obtain rfl := hw.out
    by_cases hp : k < s.size
    · have hin := plainB_in nl s k hp
      rw [hacc.out] at hin
      have Hin := Lib.hid hin; clear hin
      by_cases h32 : s[k].toNat < 32
      · have h32' : (s[k].toNat : Int) < 32 := by omega
        cases nl with
        | false =>
          have hf : Hid (plainB false s 0 = false) := by rw [Hid, Hin.out]; simp [okB]; omega
          go_wp2_with fail
          go_ret
          exact ⟨ret_bool hf.out.symm, rfl⟩
        | true =>
          by_cases h10 : s[k].toNat = 10
          · have h10' : ((s[k].toNat : Int) == 10) = true := by simp; omega
            have hf : Hid (plainB true s (k + 1) = plainB true s 0) := by rw [Hid, Hin.out]; simp [okB, h10]
            go_wp2_with fail
            refine ⟨⟨k + 1, by go_num, by omega, Lib.hid trivial, hf⟩, by simp [RowKit.intOf]; omega⟩
          · have h10' : ((s[k].toNat : Int) == 10) = false := by simp; omega
            have hf : Hid (plainB true s 0 = false) := by rw [Hid, Hin.out]; simp [okB, h10]; omega
            go_wp2_with fail
            go_ret
            exact ⟨ret_bool hf.out.symm, rfl⟩
      · have h32' : ¬ (s[k].toNat : Int) < 32 := by omega
        have hf : Hid (plainB nl s (k + 1) = plainB nl s 0) := by rw [Hid, Hin.out, okB_high nl (by omega)]; simp
        go_wp2_with fail
        refine ⟨⟨k + 1, by go_num, by omega, Lib.hid trivial, hf⟩, by simp [RowKit.intOf]; omega⟩
    · have ht : Hid (plainB nl s 0 = true) := by rw [Hid, ← hacc.out]; exact plainB_end nl s k hp
      go_wp2_with fail
      go_ret
      exact ⟨ret_bool ht.out.symm, rfl⟩
theorem validP_in {s : ByteArray} {pos r wd : Nat} (h : pos < s.size) (hd : Utf8.decode s pos = (r, wd)) :
    validP s pos = if r = 65533 ∧ wd = 1 then false else validP s (pos + wd) := by
  rw [validP, dif_pos h, hd]
theorem validP_end {s : ByteArray} {pos : Nat} (h : ¬ pos < s.size) : validP s pos = true := by
  rw [validP, dif_neg h]
theorem three_at (s : ByteArray) (pos : Nat) (h : pos + 3 ≤ s.size) : (s.extract pos (pos + 3) = ⟨#[239, 191, 189]⟩) ↔ ((s.get! pos).toNat = 239 ∧ (s.get! (pos + 1)).toNat = 191 ∧ (s.get! (pos + 2)).toNat = 189) := by
  have hz : s.data.size = s.size := rfl
  have e : (s.extract pos (pos + 3)).data.toList = [s.get! pos, s.get! (pos + 1), s.get! (pos + 2)] := by
    rw [bytes_extract _ _ _ h, show pos + 3 - pos = 3 from by omega, get_at s pos (by omega), get_at s (pos + 1) (by omega), get_at s (pos + 2) (by omega)]
    rw [List.drop_eq_getElem_cons (by rw [Array.length_toList]; omega), List.drop_eq_getElem_cons (i := pos + 1) (by rw [Array.length_toList]; omega), List.drop_eq_getElem_cons (i := pos + 1 + 1) (by rw [Array.length_toList]; omega)]
    rfl
  constructor
  · intro h1
    rw [h1] at e
    injection e with e0 e
    injection e with e1 e
    injection e with e2 e
    rw [← e0, ← e1, ← e2]
    decide
  · rintro ⟨h0, h1, h2⟩
    apply ByteArray.ext
    apply Array.ext'
    rw [e]
    have f0 : s.get! pos = 239 := UInt8.toNat_inj.1 h0
    have f1 : s.get! (pos + 1) = 191 := UInt8.toNat_inj.1 h1
    have f2 : s.get! (pos + 2) = 189 := UInt8.toNat_inj.1 h2
    rw [f0, f1, f2]
set_option maxRecDepth 100000 in
set_option maxHeartbeats 1000000 in
theorem rwhole_any (s : ByteArray) (w : World) (hs : s.size ≤ 35184372088832) :
    Calls Tryd.prog 50 #[.string s] w fun e w' => e = .returned (.bool (validP s 0)) ∧ Below w.heap.size w w' := by
  go_enter Tryd.func50, Tryd.ntmps50
  go_wp2_with fail
  go_loopw [] (fun wr => ∃ (pos : Nat), wr.heap[w.heap.size]? = some (.stringIter s pos) ∧ Below w.heap.size w wr ∧ Hid (validP s pos = validP s 0)) (fun wr => s.size - wr.iterPos w.heap.size)
  case atStart =>
    exact ⟨0, World.iter_heap w s 0, (Below.refl _ w).alloc (Nat.le_refl _) _, Lib.hid rfl⟩
  case round =>
    obtain ⟨pos, hit, hbw, hacc⟩ := hrel
    have hsz : w.heap.size < wr.heap.size := (Array.getElem?_eq_some_iff.1 hit).1
    have hpos : wr.iterPos w.heap.size = pos := iterPos_of hit
    by_cases hp : pos < s.size
    · have hwd := decode_width_pos s pos hp
      have hff := fffd_at s pos hp
      have hit2 := Lib.iterAt_heap wr w.heap.size s pos (pos + (Utf8.decode s pos).2) hit
      have hbw2 := Lib.below_iterAt hbw (k := w.heap.size) (Nat.le_refl _) s (pos + (Utf8.decode s pos).2)
      have hnx : ∀ ty, (Instr.next (.pointer (some ⟨w.heap.size, 0, none⟩)) true ty).run Tryd.prog wr = _ := fun ty => Lib.run_next_any_at wr w.heap.size s pos ty hit hp
      have hin := fun r wd => validP_in (s := s) (pos := pos) (r := r) (wd := wd) hp
      generalize Utf8.decode s pos = d at hwd hit2 hbw2 hnx hin hff
      obtain ⟨r, wd⟩ := d
      have hin' := hin r wd rfl
      rw [hacc.out] at hin'
      simp only at hwd hit2 hbw2 hnx hff
      generalize hW : wr.iterAt w.heap.size s (pos + wd) = W at hit2 hbw2 hnx
      have Hc := hide (And.intro hit2 (And.intro hbw2 hin')); clear hit2 hbw2 hin' hin hW
      by_cases hr : r = 65533
      · subst hr
        have Hff := hide (hff rfl); clear hff
        rcases Nat.lt_or_ge s.size (pos + 3) with h3 | h3
        · have h1 : wd = 1 := (unhide Hff).2 (by omega)
          have hf : Hid (validP s 0 = false) := by rw [Hid, (unhide Hc).2.2]; simp [h1]
          have h3' : (s.size : Int) < pos + 3 := by omega
          go_wp2_with fail
          go_ret
          exact ⟨ret_bool hf.out.symm, (unhide Hc).2.1⟩
        · have h3' : ¬ (s.size : Int) < pos + 3 := by omega
          have h3'' : (pos : Int) + 3 ≤ s.size := by omega
          have h0 : (0 : Int) ≤ pos := by omega
          by_cases he : s.extract pos (pos + 3) = ⟨#[239, 191, 189]⟩
          · have h1 : ¬ wd = 1 := fun h => ((unhide Hff).1 h) ⟨h3, (three_at s pos h3).1 he⟩
            have hf : Hid (validP s (pos + wd) = validP s 0) := by rw [Hid, (unhide Hc).2.2]; simp [h1]
            go_wp2_with fail
            go_roundw
            case rel => exact ⟨pos + wd, (unhide Hc).1, (unhide Hc).2.1, hf⟩
            case measure =>
              rw [hpos, iterPos_of (unhide Hc).1]
              omega
          · have h1 : wd = 1 := (unhide Hff).2 (fun h => he ((three_at s pos h3).2 h.2))
            have hf : Hid (validP s 0 = false) := by rw [Hid, (unhide Hc).2.2]; simp [h1]
            have he' : ((s.extract pos (pos + 3)).toList == [239, 191, 189]) = false := by
              rw [beq_eq_false_iff_ne]
              intro h
              rw [ByteArray.toList_eq] at h
              exact he (ByteArray.ext (Array.ext' h))
            go_wp2_with fail
            go_ret
            exact ⟨ret_bool hf.out.symm, (unhide Hc).2.1⟩
      · have hr0 : (((r : Nat) : Int) == 65533) = false := by simp; omega
        have hf : Hid (validP s (pos + wd) = validP s 0) := by rw [Hid, (unhide Hc).2.2]; simp [hr]
        go_wp2_with fail
        go_roundw
        case rel => exact ⟨pos + wd, (unhide Hc).1, (unhide Hc).2.1, hf⟩
        case measure =>
          rw [hpos, iterPos_of (unhide Hc).1]
          omega
    · have hnx : ∀ ty, (Instr.next (.pointer (some ⟨w.heap.size, 0, none⟩)) true ty).run Tryd.prog wr = _ := fun ty => Lib.run_next_end_at wr w.heap.size s pos ty hit hp
      have ht : Hid (validP s 0 = true) := by rw [Hid, ← hacc.out]; exact validP_end hp
      go_wp2_with fail
      go_ret
      exact ⟨ret_bool ht.out.symm, hbw⟩
end Go.Proofs.YtfhaoamlagnpjaaDoor

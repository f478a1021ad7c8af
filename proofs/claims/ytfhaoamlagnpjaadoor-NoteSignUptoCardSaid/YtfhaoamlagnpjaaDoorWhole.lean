/-
  CONTRACTS of package note and of the document's answer for it: is a text whole?
-/
import Derived.Test.YtfhaoamlagnpjaaDoorRows
import Derived.Test.YtfhaoamlagnpjaaDoorWd
import Derived.Test.YtfhaoamlagnpjaaDoorShelf
import Derived.Test.YtfhaoamlagnpjaaDoorWholeP
import Derived.Lib.OthersKept
import Derived.Lib.RuneCountTail
set_option linter.unusedVariables false
set_option linter.unusedSimpArgs false
namespace Go.Proofs.YtfhaoamlagnpjaaDoor
open Go.RowKit Go.Lib
theorem Tabs.below {B g3 g4 : Nat} {w w' : World} (h : Lib.Utf8Tabs g3 g4 w) (hb : Below B w w') (h3 : g3 < B) (h4 : g4 < B) : Lib.Utf8Tabs g3 g4 w' :=
  ⟨fun c hc => (hb.cell (p := ⟨g3, c, none⟩) h3).trans (h.1 c hc), fun i hi => ⟨(hb.cell (p := ⟨g4, 2 * i, none⟩) h4).trans (h.2 i hi).1, (hb.cell (p := ⟨g4, 2 * i + 1, none⟩) h4).trans (h.2 i hi).2⟩⟩
theorem Tabs.lt3 {g3 g4 : Nat} {w : World} (h : Lib.Utf8Tabs g3 g4 w) : g3 < w.heap.size := World.block_lt_of_cell? w _ (h.1 0 (by omega))
theorem Tabs.lt4 {g3 g4 : Nat} {w : World} (h : Lib.Utf8Tabs g3 g4 w) : g4 < w.heap.size := World.block_lt_of_cell? w _ (h.2 0 (by omega)).1
theorem wholeP_in {nl : Bool} {s : ByteArray} {pos r wd : Nat} (h : pos < s.size) (hd : Utf8.decode s pos = (r, wd)) :
    wholeP nl s pos = if r = 65533 ∧ wd = 1 then false else if okB nl r = false then false else wholeP nl s (pos + wd) := by
  rw [wholeP, dif_pos h, hd]
theorem wholeP_end {nl : Bool} {s : ByteArray} {pos : Nat} (h : ¬ pos < s.size) : wholeP nl s pos = true := by
  rw [wholeP, dif_neg h]
set_option maxRecDepth 100000 in
set_option maxHeartbeats 1000000 in
theorem whole_any (nl : Bool) (s : ByteArray) (w : World) (hs : s.size ≤ maxLen) (hT : Lib.Utf8Tabs 3 4 w) :
    Calls Tryd.prog 45 #[.string s, .bool nl] w fun e w' => e = .returned (.bool (wholeP nl s 0)) ∧ Below w.heap.size w w' := by
  have hs' : s.size ≤ 9223372036854775807 := by simpa [maxLen] using hs
  have HT := hide hT; clear hT
  go_enter Tryd.func45, Tryd.ntmps45
  go_wp2_with fail
  go_loopw [] (fun wr => ∃ (pos : Nat), wr.heap[w.heap.size]? = some (.stringIter s pos) ∧ Below w.heap.size w wr ∧ Hid (wholeP nl s pos = wholeP nl s 0)) (fun wr => s.size - wr.iterPos w.heap.size)
  case atStart =>
    exact ⟨0, World.iter_heap w s 0, (Below.refl _ w).alloc (Nat.le_refl _) _, Lib.hid rfl⟩
  case round =>
    obtain ⟨pos, hit, hbw, hacc⟩ := hrel
    have hsz : w.heap.size < wr.heap.size := (Array.getElem?_eq_some_iff.1 hit).1
    have hpos : wr.iterPos w.heap.size = pos := iterPos_of hit
    by_cases hp : pos < s.size
    · have hwd := decode_width_pos s pos hp
      have hit2 := Lib.iterAt_heap wr w.heap.size s pos (pos + (Utf8.decode s pos).2) hit
      have hbw2 := Lib.below_iterAt hbw (k := w.heap.size) (Nat.le_refl _) s (pos + (Utf8.decode s pos).2)
      have hnx : ∀ ty, (Instr.next (.pointer (some ⟨w.heap.size, 0, none⟩)) true ty).run Tryd.prog wr = _ := fun ty => Lib.run_next_any_at wr w.heap.size s pos ty hit hp
      have hgo : Lib.decodeGo (s.extract pos s.size) = Utf8.decode s pos := by
        unfold Lib.decodeGo
        rw [if_neg (by simp; omega), tail_decode, Nat.add_zero]
      have hin := fun r wd => wholeP_in (nl := nl) (s := s) (pos := pos) (r := r) (wd := wd) hp
      generalize Utf8.decode s pos = d at hwd hit2 hbw2 hnx hgo hin
      obtain ⟨r, wd⟩ := d
      have hin' := hin r wd rfl
      rw [hacc.out] at hin'
      simp only at hwd hit2 hbw2 hnx
      have hsz2 : (wr.iterAt w.heap.size s (pos + wd)).heap.size = wr.heap.size := Lib.iterAt_size ..
      generalize hW : wr.iterAt w.heap.size s (pos + wd) = W at hit2 hbw2 hnx hsz2
      have hTW := Tabs.below (unhide HT) hbw2 (Tabs.lt3 (unhide HT)) (Tabs.lt4 (unhide HT))
      have hcall := Tryd.utf8_DecodeRuneInString (s.extract pos s.size) W hTW
      rw [hgo] at hcall
      have Hc := hide (And.intro hcall (And.intro hit2 (And.intro hbw2 hin'))); clear hcall hit2 hbw2 hin' hin hgo hTW hW
      rcases Decidable.em (r = 65533) with hr | hr
      · subst hr
        go_wp2_with fail
        refine (unhide Hc).1.mono ?_
        rintro e w1 ⟨rfl, hb1⟩
        have hit1 : w1.heap[w.heap.size]? = some (.stringIter s (pos + wd)) := by rw [hb1.block _ (by omega)]; exact (unhide Hc).2.1
        have hbw1 := (unhide Hc).2.2.1.trans (hb1.mono (by omega))
        have H1 := hide (And.intro hit1 hbw1); clear hit1 hbw1 hb1
        by_cases h1 : wd = 1
        · subst h1
          have hf : Hid (wholeP nl s 0 = false) := by rw [Hid, (unhide Hc).2.2.2]; simp
          go_wp2_with fail
          go_ret
          exact ⟨ret_bool hf.out.symm, (unhide H1).2⟩
        · have hb : ((wd : Int) == 1) = false := by simp; omega
          have hf : Hid (wholeP nl s (pos + wd) = wholeP nl s 0) := by rw [Hid, (unhide Hc).2.2.2, if_neg (by simpa using h1), if_neg (by rw [okB_high nl (by omega)]; simp)]
          go_wp2_with fail
          go_roundw
          case rel => exact ⟨pos + wd, (unhide H1).1, (unhide H1).2, hf⟩
          case measure =>
            rw [hpos, iterPos_of (unhide H1).1]
            omega
      · have hr0 : (((r : Nat) : Int) == 65533) = false := by simp; omega
        have hit1 := (unhide Hc).2.1
        have hbw1 := (unhide Hc).2.2.1
        have H1 := hide (And.intro hit1 hbw1); clear hit1 hbw1
        have hok : Hid (wholeP nl s 0 = if okB nl r = false then false else wholeP nl s (pos + wd)) := by
          rw [Hid, (unhide Hc).2.2.2, if_neg (by omega)]
        clear Hc
        by_cases h32 : r < 32
        · cases nl with
          | false =>
            have hf : Hid (wholeP false s 0 = false) := by rw [Hid, hok.out, if_pos (by simp [okB]; omega)]
            go_wp2_with fail
            go_ret
            exact ⟨ret_bool hf.out.symm, (unhide H1).2⟩
          | true =>
            by_cases h10 : r = 10
            · subst h10
              have hf : Hid (wholeP true s (pos + wd) = wholeP true s 0) := by rw [Hid, hok.out, if_neg (by simp [okB])]
              go_wp2_with fail
              go_roundw
              case rel => exact ⟨pos + wd, (unhide H1).1, (unhide H1).2, hf⟩
              case measure =>
                rw [hpos, iterPos_of (unhide H1).1]
                omega
            · have hn10 : (((r : Nat) : Int) == 10) = false := by simp; omega
              have hf : Hid (wholeP true s 0 = false) := by rw [Hid, hok.out, if_pos (by simp [okB]; omega)]
              go_wp2_with fail
              go_ret
              exact ⟨ret_bool hf.out.symm, (unhide H1).2⟩
        · have hf : Hid (wholeP nl s (pos + wd) = wholeP nl s 0) := by rw [Hid, hok.out, if_neg (by rw [okB_high nl (by omega)]; simp)]
          go_wp2_with fail
          go_roundw
          case rel => exact ⟨pos + wd, (unhide H1).1, (unhide H1).2, hf⟩
          case measure =>
            rw [hpos, iterPos_of (unhide H1).1]
            omega
    · have hnx : ∀ ty, (Instr.next (.pointer (some ⟨w.heap.size, 0, none⟩)) true ty).run Tryd.prog wr = _ := fun ty => Lib.run_next_end_at wr w.heap.size s pos ty hit hp
      have ht : Hid (wholeP nl s 0 = true) := by rw [Hid, ← hacc.out]; exact wholeP_end hp
      go_wp2_with fail
      go_ret
      exact ⟨ret_bool ht.out.symm, hbw⟩
end Go.Proofs.YtfhaoamlagnpjaaDoor

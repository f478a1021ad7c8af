/-
  Several texts in one: PLAIN LAW: a text that is gone through rune by rune, and one that is gone through byte by byte: the same texts are whole. | CONTRACTS of package note and of the document's answer for it: is a text whole? | CONTRACTS of the document's answer for note: plain and whole. | CONTRACTS of package note and of the document's answer for it: goes.
-/
import Derived.Test.YtphoflcilpopgaaGreatDoorRows
import Derived.Lib.DecodeN
import Derived.Lib.RuneCount
import Derived.Lib.MapLaws
import Derived.Lib.OthersKept
import Derived.Lib.RuneCountTail
import Derived.Test.YtphoflcilpopgaaGreatDoorGBase
import Derived.Test.YtphoflcilpopgaaGreatDoorSShelf
set_option linter.unusedVariables false
set_option linter.unusedSimpArgs false
namespace Go.Proofs.YtphoflcilpopgaaGreatDoor
open Go.Lib
def okB (nl : Bool) (b : Nat) : Bool := decide (32 ≤ b) || (nl && b == 10)
/-- Rune by rune, as the program goes. -/
def wholeP (nl : Bool) (s : ByteArray) (pos : Nat) : Bool :=
  if h : pos < s.size then
    if (Utf8.decode s pos).1 = 65533 ∧ (Utf8.decode s pos).2 = 1 then false
    else if okB nl (Utf8.decode s pos).1 = false then false
    else wholeP nl s (pos + (Utf8.decode s pos).2)
  else true
termination_by s.size - pos
decreasing_by have := decode_width_pos s pos h; omega
def validP (s : ByteArray) (pos : Nat) : Bool :=
  if h : pos < s.size then
    if (Utf8.decode s pos).1 = 65533 ∧ (Utf8.decode s pos).2 = 1 then false
    else validP s (pos + (Utf8.decode s pos).2)
  else true
termination_by s.size - pos
decreasing_by have := decode_width_pos s pos h; omega
def plainB (nl : Bool) (s : ByteArray) (pos : Nat) : Bool := (s.data.toList.drop pos).all fun b => okB nl b.toNat
theorem get_at (s : ByteArray) (i : Nat) (h : i < s.size) : s.get! i = s[i] := by
  simp only [ByteArray.get!, ByteArray.getElem_eq_getElem_data]
  exact getElem!_pos s.data i h
theorem plainB_step (nl : Bool) (s : ByteArray) (pos : Nat) (h : pos < s.size) : plainB nl s pos = (okB nl (s.get! pos).toNat && plainB nl s (pos + 1)) := by
  unfold plainB
  rw [List.drop_eq_getElem_cons (by rw [Array.length_toList]; exact h), List.all_cons, get_at s pos h]
  rfl
theorem okB_high (nl : Bool) {b : Nat} (h : 32 ≤ b) : okB nl b = true := by simp [okB, h]
theorem wholeP_eq (nl : Bool) (s : ByteArray) (pos : Nat) : wholeP nl s pos = (plainB nl s pos && validP s pos) := by
  induction hn : s.size - pos using Nat.strongRecOn generalizing pos with
  | _ n ih =>
    rw [wholeP, validP]
    by_cases h : pos < s.size
    · rw [dif_pos h, dif_pos h]
      by_cases hb : (Utf8.decode s pos).1 = 65533 ∧ (Utf8.decode s pos).2 = 1
      · rw [if_pos hb, if_pos hb, Bool.and_false]
      · rw [if_neg hb, if_neg hb]
        have hw := decode_width_pos s pos h
        have ih' := ih _ (by omega) (pos + (Utf8.decode s pos).2) rfl
        rw [ih']
        have hd := decode_at s pos
        have hs := decodeN_shape (s.size - pos) (s.get! pos).toNat (s.get! (pos + 1)).toNat (s.get! (pos + 2)).toNat (s.get! (pos + 3)).toNat
        rw [← hd] at hs
        rcases hs with ⟨h0, e⟩ | ⟨h0, h1, h2, h3, e⟩ | ⟨h0, h1, h2, h3, h4, h5, e⟩ | ⟨h0, h1, h2, h3, h4, h5, h6, e⟩ | e
        · rw [e]
          simp only
          rw [plainB_step nl s pos h]
          cases okB nl (s.get! pos).toNat <;> simp
        · rw [e]
          simp only
          rw [okB_high nl (b := (s.get! pos).toNat % 32 * 64 + (s.get! (pos + 1)).toNat % 64) (by omega), plainB_step nl s pos h, plainB_step nl s (pos + 1) (by omega), okB_high nl (b := (s.get! pos).toNat) (by omega), okB_high nl (b := (s.get! (pos + 1)).toNat) (by omega)]
          simp
        · rw [e]
          simp only
          rw [okB_high nl (b := (s.get! pos).toNat % 16 * 4096 + (s.get! (pos + 1)).toNat % 64 * 64 + (s.get! (pos + 2)).toNat % 64) (by omega), plainB_step nl s pos h, plainB_step nl s (pos + 1) (by omega), plainB_step nl s (pos + 1 + 1) (by omega), okB_high nl (b := (s.get! pos).toNat) (by omega), okB_high nl (b := (s.get! (pos + 1)).toNat) (by omega), okB_high nl (b := (s.get! (pos + 1 + 1)).toNat) (by show 32 ≤ (s.get! (pos + 2)).toNat; omega)]
          simp
        · rw [e]
          simp only
          rw [okB_high nl (b := (s.get! pos).toNat % 8 * 262144 + (s.get! (pos + 1)).toNat % 64 * 4096 + (s.get! (pos + 2)).toNat % 64 * 64 + (s.get! (pos + 3)).toNat % 64) (by omega), plainB_step nl s pos h, plainB_step nl s (pos + 1) (by omega), plainB_step nl s (pos + 1 + 1) (by omega), plainB_step nl s (pos + 1 + 1 + 1) (by omega), okB_high nl (b := (s.get! pos).toNat) (by omega), okB_high nl (b := (s.get! (pos + 1)).toNat) (by omega), okB_high nl (b := (s.get! (pos + 1 + 1)).toNat) (by show 32 ≤ (s.get! (pos + 2)).toNat; omega), okB_high nl (b := (s.get! (pos + 1 + 1 + 1)).toNat) (by show 32 ≤ (s.get! (pos + 3)).toNat; omega)]
          simp
        · exact absurd (by rw [e]; exact ⟨rfl, rfl⟩) hb
    · rw [dif_neg h, dif_neg h]
      unfold plainB
      have hz : s.data.size = s.size := rfl
      rw [List.drop_eq_nil_of_le (by rw [Array.length_toList]; omega)]
      rfl
/-- Where U+FFFD is read: either its three bytes stand there, or one bad byte. -/
theorem fffd_at (s : ByteArray) (pos : Nat) (h : pos < s.size) (hr : (Utf8.decode s pos).1 = 65533) :
    ((Utf8.decode s pos).2 = 1) ↔ ¬ (pos + 3 ≤ s.size ∧ (s.get! pos).toNat = 239 ∧ (s.get! (pos + 1)).toNat = 191 ∧ (s.get! (pos + 2)).toNat = 189) := by
  have hd := decode_at s pos
  have hs := decodeN_shape (s.size - pos) (s.get! pos).toNat (s.get! (pos + 1)).toNat (s.get! (pos + 2)).toNat (s.get! (pos + 3)).toNat
  have u0 := (s.get! pos).toNat_lt
  have u1 := (s.get! (pos + 1)).toNat_lt
  have u2 := (s.get! (pos + 2)).toNat_lt
  have u3 := (s.get! (pos + 3)).toNat_lt
  constructor
  · intro h1 ⟨g0, g1, g2, g3⟩
    have : Utf8.decode s pos = (65533, 3) := by
      rw [hd, g1, g2, g3]
      unfold decodeN
      simp
      omega
    rw [this] at h1
    simp at h1
  · intro hn
    rw [← hd] at hs
    rcases hs with ⟨h0, e⟩ | ⟨h0, h1, h2, h3, e⟩ | ⟨h0, h1, h2, h3, h4, h5, e⟩ | ⟨h0, h1, h2, h3, h4, h5, h6, e⟩ | e
    · rw [e]
    · rw [e] at hr; simp only at hr; omega
    · rw [e] at hr; simp only at hr
      exact absurd ⟨by omega, by omega, by omega, by omega⟩ hn
    · rw [e] at hr; simp only at hr; omega
    · rw [e]
end Go.Proofs.YtphoflcilpopgaaGreatDoor

set_option linter.unusedVariables false
set_option linter.unusedSimpArgs false
namespace Go.Proofs.YtphoflcilpopgaaGreatDoor
open Go.RowKit Go.Lib
theorem Tabs.below {B g3 g4 : Nat} {w w' : World} (h : Lib.Utf8Tabs g3 g4 w) (hb : Below B w w') (h3 : g3 < B) (h4 : g4 < B) : Lib.Utf8Tabs g3 g4 w' :=
  ⟨fun c hc => (hb.cell (p := ⟨g3, c, none⟩) h3).trans (h.1 c hc), fun i hi => ⟨(hb.cell (p := ⟨g4, 2 * i, none⟩) h4).trans (h.2 i hi).1, (hb.cell (p := ⟨g4, 2 * i + 1, none⟩) h4).trans (h.2 i hi).2⟩⟩
theorem Tabs.lt3 {g3 g4 : Nat} {w : World} (h : Lib.Utf8Tabs g3 g4 w) : g3 < w.heap.size := World.block_lt_of_cell? w _ (h.1 0 (by omega))
theorem Tabs.lt4 {g3 g4 : Nat} {w : World} (h : Lib.Utf8Tabs g3 g4 w) : g4 < w.heap.size := World.block_lt_of_cell? w _ (h.2 0 (by omega)).1
theorem wholeP_in {nl : Bool} {s : ByteArray} {pos r wd : Nat} (h : pos < s.size) (hd : Utf8.decode s pos = (r, wd)) :
    wholeP nl s pos = if r = 65533 ∧ wd = 1 then false else if okB nl r = false then false else wholeP nl s (pos + wd) := by
  rw [wholeP, dif_pos h, hd]
theorem wholeP_end {nl : Bool} {s : ByteArray} {pos : Nat} (h : ¬ pos < s.size) : wholeP nl s pos = true := by
  rw [wholeP, dif_neg h]
set_option maxRecDepth 100000 in
set_option maxHeartbeats 1000000 in
theorem whole_any (nl : Bool) (s : ByteArray) (w : World) (hs : s.size ≤ maxLen) (hT : Lib.Utf8Tabs 5 6 w) :
    Calls Tryz.prog 61 #[.string s, .bool nl] w fun e w' => e = .returned (.bool (wholeP nl s 0)) ∧ Below w.heap.size w w' := by
  have hs' : s.size ≤ 9223372036854775807 := by simpa [maxLen] using hs
  have HT := hide hT; clear hT
  go_enter Tryz.func61, Tryz.ntmps61
  go_wp2_with fail
  go_loopw [] (fun wr => ∃ (pos : Nat), wr.heap[w.heap.size]? = some (.stringIter s pos) ∧ Below w.heap.size w wr ∧ Hid (wholeP nl s pos = wholeP nl s 0)) (fun wr => s.size - wr.iterPos w.heap.size)
  case atStart =>
    exact ⟨0, World.iter_heap w s 0, (Below.refl _ w).alloc (Nat.le_refl _) _, Lib.hid rfl⟩
  case round =>
    obtain ⟨pos, hit, hbw, hacc⟩ := hrel
    have hsz : w.heap.size < wr.heap.size := (Array.getElem?_eq_some_iff.1 hit).1
    have hpos : wr.iterPos w.heap.size = pos := iterPos_of hit
    by_cases hp : pos < s.size
    · have hwd := decode_width_pos s pos hp
      have hit2 := Lib.iterAt_heap wr w.heap.size s pos (pos + (Utf8.decode s pos).2) hit
      have hbw2 := Lib.below_iterAt hbw (k := w.heap.size) (Nat.le_refl _) s (pos + (Utf8.decode s pos).2)
      have hnx : ∀ ty, (Instr.next (.pointer (some ⟨w.heap.size, 0, none⟩)) true ty).run Tryz.prog wr = _ := fun ty => Lib.run_next_any_at wr w.heap.size s pos ty hit hp
      have hgo : Lib.decodeGo (s.extract pos s.size) = Utf8.decode s pos := by
        unfold Lib.decodeGo
        rw [if_neg (by simp; omega), tail_decode, Nat.add_zero]
      have hin := fun r wd => wholeP_in (nl := nl) (s := s) (pos := pos) (r := r) (wd := wd) hp
      generalize Utf8.decode s pos = d at hwd hit2 hbw2 hnx hgo hin
      obtain ⟨r, wd⟩ := d
      have hin' := hin r wd rfl
      rw [hacc.out] at hin'
      simp only at hwd hit2 hbw2 hnx
      have hsz2 : (wr.iterAt w.heap.size s (pos + wd)).heap.size = wr.heap.size := Lib.iterAt_size ..
      generalize hW : wr.iterAt w.heap.size s (pos + wd) = W at hit2 hbw2 hnx hsz2
      have hTW := Tabs.below (unhide HT) hbw2 (Tabs.lt3 (unhide HT)) (Tabs.lt4 (unhide HT))
      have hcall := Tryz.utf8_DecodeRuneInString (s.extract pos s.size) W hTW
      rw [hgo] at hcall
      have Hc := hide (And.intro hcall (And.intro hit2 (And.intro hbw2 hin'))); clear hcall hit2 hbw2 hin' hin hgo hTW hW
      rcases Decidable.em (r = 65533) with hr | hr
      · subst hr
        go_wp2_with fail
        refine (unhide Hc).1.mono ?_
        rintro e w1 ⟨rfl, hb1⟩
        have hit1 : w1.heap[w.heap.size]? = some (.stringIter s (pos + wd)) := by rw [hb1.block _ (by omega)]; exact (unhide Hc).2.1
        have hbw1 := (unhide Hc).2.2.1.trans (hb1.mono (by omega))
        have H1 := hide (And.intro hit1 hbw1); clear hit1 hbw1 hb1
        by_cases h1 : wd = 1
        · subst h1
          have hf : Hid (wholeP nl s 0 = false) := by rw [Hid, (unhide Hc).2.2.2]; simp
          go_wp2_with fail
          go_ret
          exact ⟨ret_bool hf.out.symm, (unhide H1).2⟩
        · have hb : ((wd : Int) == 1) = false := by simp; omega
          have hf : Hid (wholeP nl s (pos + wd) = wholeP nl s 0) := by rw [Hid, (unhide Hc).2.2.2, if_neg (by simpa using h1), if_neg (by rw [okB_high nl (by omega)]; simp)]
          go_wp2_with fail
          go_roundw
          case rel => exact ⟨pos + wd, (unhide H1).1, (unhide H1).2, hf⟩
          case measure =>
            rw [hpos, iterPos_of (unhide H1).1]
            omega
      · have hr0 : (((r : Nat) : Int) == 65533) = false := by simp; omega
        have hit1 := (unhide Hc).2.1
        have hbw1 := (unhide Hc).2.2.1
        have H1 := hide (And.intro hit1 hbw1); clear hit1 hbw1
        have hok : Hid (wholeP nl s 0 = if okB nl r = false then false else wholeP nl s (pos + wd)) := by
          rw [Hid, (unhide Hc).2.2.2, if_neg (by omega)]
        clear Hc
        by_cases h32 : r < 32
        · cases nl with
          | false =>
            have hf : Hid (wholeP false s 0 = false) := by rw [Hid, hok.out, if_pos (by simp [okB]; omega)]
            go_wp2_with fail
            go_ret
            exact ⟨ret_bool hf.out.symm, (unhide H1).2⟩
          | true =>
            by_cases h10 : r = 10
            · subst h10
              have hf : Hid (wholeP true s (pos + wd) = wholeP true s 0) := by rw [Hid, hok.out, if_neg (by simp [okB])]
              go_wp2_with fail
              go_roundw
              case rel => exact ⟨pos + wd, (unhide H1).1, (unhide H1).2, hf⟩
              case measure =>
                rw [hpos, iterPos_of (unhide H1).1]
                omega
            · have hn10 : (((r : Nat) : Int) == 10) = false := by simp; omega
              have hf : Hid (wholeP true s 0 = false) := by rw [Hid, hok.out, if_pos (by simp [okB]; omega)]
              go_wp2_with fail
              go_ret
              exact ⟨ret_bool hf.out.symm, (unhide H1).2⟩
        · have hf : Hid (wholeP nl s (pos + wd) = wholeP nl s 0) := by rw [Hid, hok.out, if_neg (by rw [okB_high nl (by omega)]; simp)]
          go_wp2_with fail
          go_roundw
          case rel => exact ⟨pos + wd, (unhide H1).1, (unhide H1).2, hf⟩
          case measure =>
            rw [hpos, iterPos_of (unhide H1).1]
            omega
    · have hnx : ∀ ty, (Instr.next (.pointer (some ⟨w.heap.size, 0, none⟩)) true ty).run Tryz.prog wr = _ := fun ty => Lib.run_next_end_at wr w.heap.size s pos ty hit hp
      have ht : Hid (wholeP nl s 0 = true) := by rw [Hid, ← hacc.out]; exact wholeP_end hp
      go_wp2_with fail
      go_ret
      exact ⟨ret_bool ht.out.symm, hbw⟩
end Go.Proofs.YtphoflcilpopgaaGreatDoor

set_option linter.unusedVariables false
set_option linter.unusedSimpArgs false
namespace Go.Proofs.YtphoflcilpopgaaGreatDoor
open Go.RowKit Go.Lib
theorem plainB_end (nl : Bool) (s : ByteArray) (pos : Nat) (h : ¬ pos < s.size) : plainB nl s pos = true := by
  have hz : s.data.size = s.size := rfl
  unfold plainB
  rw [List.drop_eq_nil_of_le (by rw [Array.length_toList]; omega)]
  rfl
theorem plainB_in (nl : Bool) (s : ByteArray) (pos : Nat) (h : pos < s.size) : plainB nl s pos = (okB nl (s[pos]).toNat && plainB nl s (pos + 1)) := by
  rw [plainB_step nl s pos h, get_at s pos h]
set_option maxRecDepth 100000 in
set_option maxHeartbeats 1000000 in
theorem rplain_any (nl : Bool) (s : ByteArray) (w : World) (hs : s.size ≤ maxLen) :
    Calls Tryz.prog 41 #[.string s, .bool nl] w fun e w' => e = .returned (.bool (plainB nl s 0)) ∧ w = w' := by
  have hs' : s.size ≤ 9223372036854775807 := by simpa [maxLen] using hs
  go_enter Tryz.func41, Tryz.ntmps41
  go_wp2_with fail
  go_loopw [5] (fun i wr => ∃ (k : Nat), i = .int .i64 k ∧ k ≤ s.size ∧ Hid (w = wr) ∧ Hid (plainB nl s k = plainB nl s 0)) (fun i _ => s.size - (RowKit.intOf i).toNat)
  case atStart => exact ⟨0, rfl, by omega, Lib.hid rfl, Lib.hid rfl⟩
  case round =>
    obtain ⟨k, rfl, hk, hw, hacc⟩ := hrel
    obtain rfl := hw.out
    by_cases hp : k < s.size
    · have hin := plainB_in nl s k hp
      rw [hacc.out] at hin
      have Hin := Lib.hid hin; clear hin
      by_cases h32 : s[k].toNat < 32
      · have h32' : (s[k].toNat : Int) < 32 := by omega
        cases nl with
        | false =>
          have hf : Hid (plainB false s 0 = false) := by rw [Hid, Hin.out]; simp [okB]; omega
          go_wp2_with fail
          go_ret
          exact ⟨ret_bool hf.out.symm, rfl⟩
        | true =>
          by_cases h10 : s[k].toNat = 10
          · have h10' : ((s[k].toNat : Int) == 10) = true := by simp; omega
            have hf : Hid (plainB true s (k + 1) = plainB true s 0) := by rw [Hid, Hin.out]; simp [okB, h10]
            go_wp2_with fail
            refine ⟨⟨k + 1, by go_num, by omega, Lib.hid trivial, hf⟩, by simp [RowKit.intOf]; omega⟩
          · have h10' : ((s[k].toNat : Int) == 10) = false := by simp; omega
            have hf : Hid (plainB true s 0 = false) := by rw [Hid, Hin.out]; simp [okB, h10]; omega
            go_wp2_with fail
            go_ret
            exact ⟨ret_bool hf.out.symm, rfl⟩
      · have h32' : ¬ (s[k].toNat : Int) < 32 := by omega
        have hf : Hid (plainB nl s (k + 1) = plainB nl s 0) := by rw [Hid, Hin.out, okB_high nl (by omega)]; simp
        go_wp2_with fail
        refine ⟨⟨k + 1, by go_num, by omega, Lib.hid trivial, hf⟩, by simp [RowKit.intOf]; omega⟩
    · have ht : Hid (plainB nl s 0 = true) := by rw [Hid, ← hacc.out]; exact plainB_end nl s k hp
      go_wp2_with fail
      go_ret
      exact ⟨ret_bool ht.out.symm, rfl⟩
theorem validP_in {s : ByteArray} {pos r wd : Nat} (h : pos < s.size) (hd : Utf8.decode s pos = (r, wd)) :
    validP s pos = if r = 65533 ∧ wd = 1 then false else validP s (pos + wd) := by
  rw [validP, dif_pos h, hd]
theorem validP_end {s : ByteArray} {pos : Nat} (h : ¬ pos < s.size) : validP s pos = true := by
  rw [validP, dif_neg h]
theorem three_at (s : ByteArray) (pos : Nat) (h : pos + 3 ≤ s.size) : (s.extract pos (pos + 3) = ⟨#[239, 191, 189]⟩) ↔ ((s.get! pos).toNat = 239 ∧ (s.get! (pos + 1)).toNat = 191 ∧ (s.get! (pos + 2)).toNat = 189) := by
  have hz : s.data.size = s.size := rfl
  have e : (s.extract pos (pos + 3)).data.toList = [s.get! pos, s.get! (pos + 1), s.get! (pos + 2)] := by
    rw [bytes_extract _ _ _ h, show pos + 3 - pos = 3 from by omega, get_at s pos (by omega), get_at s (pos + 1) (by omega), get_at s (pos + 2) (by omega)]
    rw [List.drop_eq_getElem_cons (by rw [Array.length_toList]; omega), List.drop_eq_getElem_cons (i := pos + 1) (by rw [Array.length_toList]; omega), List.drop_eq_getElem_cons (i := pos + 1 + 1) (by rw [Array.length_toList]; omega)]
    rfl
  constructor
  · intro h1
    rw [h1] at e
    injection e with e0 e
    injection e with e1 e
    injection e with e2 e
    rw [← e0, ← e1, ← e2]
    decide
  · rintro ⟨h0, h1, h2⟩
    apply ByteArray.ext
    apply Array.ext'
    rw [e]
    have f0 : s.get! pos = 239 := UInt8.toNat_inj.1 h0
    have f1 : s.get! (pos + 1) = 191 := UInt8.toNat_inj.1 h1
    have f2 : s.get! (pos + 2) = 189 := UInt8.toNat_inj.1 h2
    rw [f0, f1, f2]
set_option maxRecDepth 100000 in
set_option maxHeartbeats 1000000 in
theorem rwhole_any (s : ByteArray) (w : World) (hs : s.size ≤ 35184372088832) :
    Calls Tryz.prog 42 #[.string s] w fun e w' => e = .returned (.bool (validP s 0)) ∧ Below w.heap.size w w' := by
  go_enter Tryz.func42, Tryz.ntmps42
  go_wp2_with fail
  go_loopw [] (fun wr => ∃ (pos : Nat), wr.heap[w.heap.size]? = some (.stringIter s pos) ∧ Below w.heap.size w wr ∧ Hid (validP s pos = validP s 0)) (fun wr => s.size - wr.iterPos w.heap.size)
  case atStart =>
    exact ⟨0, World.iter_heap w s 0, (Below.refl _ w).alloc (Nat.le_refl _) _, Lib.hid rfl⟩
  case round =>
    obtain ⟨pos, hit, hbw, hacc⟩ := hrel
    have hsz : w.heap.size < wr.heap.size := (Array.getElem?_eq_some_iff.1 hit).1
    have hpos : wr.iterPos w.heap.size = pos := iterPos_of hit
    by_cases hp : pos < s.size
    · have hwd := decode_width_pos s pos hp
      have hff := fffd_at s pos hp
      have hit2 := Lib.iterAt_heap wr w.heap.size s pos (pos + (Utf8.decode s pos).2) hit
      have hbw2 := Lib.below_iterAt hbw (k := w.heap.size) (Nat.le_refl _) s (pos + (Utf8.decode s pos).2)
      have hnx : ∀ ty, (Instr.next (.pointer (some ⟨w.heap.size, 0, none⟩)) true ty).run Tryz.prog wr = _ := fun ty => Lib.run_next_any_at wr w.heap.size s pos ty hit hp
      have hin := fun r wd => validP_in (s := s) (pos := pos) (r := r) (wd := wd) hp
      generalize Utf8.decode s pos = d at hwd hit2 hbw2 hnx hin hff
      obtain ⟨r, wd⟩ := d
      have hin' := hin r wd rfl
      rw [hacc.out] at hin'
      simp only at hwd hit2 hbw2 hnx hff
      generalize hW : wr.iterAt w.heap.size s (pos + wd) = W at hit2 hbw2 hnx
      have Hc := hide (And.intro hit2 (And.intro hbw2 hin')); clear hit2 hbw2 hin' hin hW
      by_cases hr : r = 65533
      · subst hr
        have Hff := hide (hff rfl); clear hff
        rcases Nat.lt_or_ge s.size (pos + 3) with h3 | h3
        · have h1 : wd = 1 := (unhide Hff).2 (by omega)
          have hf : Hid (validP s 0 = false) := by rw [Hid, (unhide Hc).2.2]; simp [h1]
          have h3' : (s.size : Int) < pos + 3 := by omega
          go_wp2_with fail
          go_ret
          exact ⟨ret_bool hf.out.symm, (unhide Hc).2.1⟩
        · have h3' : ¬ (s.size : Int) < pos + 3 := by omega
          have h3'' : (pos : Int) + 3 ≤ s.size := by omega
          have h0 : (0 : Int) ≤ pos := by omega
          by_cases he : s.extract pos (pos + 3) = ⟨#[239, 191, 189]⟩
          · have h1 : ¬ wd = 1 := fun h => ((unhide Hff).1 h) ⟨h3, (three_at s pos h3).1 he⟩
            have hf : Hid (validP s (pos + wd) = validP s 0) := by rw [Hid, (unhide Hc).2.2]; simp [h1]
            go_wp2_with fail
            go_roundw
            case rel => exact ⟨pos + wd, (unhide Hc).1, (unhide Hc).2.1, hf⟩
            case measure =>
              rw [hpos, iterPos_of (unhide Hc).1]
              omega
          · have h1 : wd = 1 := (unhide Hff).2 (fun h => he ((three_at s pos h3).2 h.2))
            have hf : Hid (validP s 0 = false) := by rw [Hid, (unhide Hc).2.2]; simp [h1]
            have he' : ((s.extract pos (pos + 3)).toList == [239, 191, 189]) = false := by
              rw [beq_eq_false_iff_ne]
              intro h
              rw [ByteArray.toList_eq] at h
              exact he (ByteArray.ext (Array.ext' h))
            go_wp2_with fail
            go_ret
            exact ⟨ret_bool hf.out.symm, (unhide Hc).2.1⟩
      · have hr0 : (((r : Nat) : Int) == 65533) = false := by simp; omega
        have hf : Hid (validP s (pos + wd) = validP s 0) := by rw [Hid, (unhide Hc).2.2]; simp [hr]
        go_wp2_with fail
        go_roundw
        case rel => exact ⟨pos + wd, (unhide Hc).1, (unhide Hc).2.1, hf⟩
        case measure =>
          rw [hpos, iterPos_of (unhide Hc).1]
          omega
    · have hnx : ∀ ty, (Instr.next (.pointer (some ⟨w.heap.size, 0, none⟩)) true ty).run Tryz.prog wr = _ := fun ty => Lib.run_next_end_at wr w.heap.size s pos ty hit hp
      have ht : Hid (validP s 0 = true) := by rw [Hid, ← hacc.out]; exact validP_end hp
      go_wp2_with fail
      go_ret
      exact ⟨ret_bool ht.out.symm, hbw⟩
end Go.Proofs.YtphoflcilpopgaaGreatDoor

set_option linter.unusedVariables false
set_option linter.unusedSimpArgs false
namespace Go.Proofs.YtphoflcilpopgaaGreatDoor
open Go.RowKit Go.Lib
/-- Can a note have this text? -/
def goesV (s : ByteArray) : Bool := decide (s.data.toList.getLast? = some 10) && wholeP true s 0
theorem hasSuffix_nl (l : List UInt8) : Lib.hasSuffix l [10] = decide (l.getLast? = some 10) := by
  rw [Bool.eq_iff_iff, decide_eq_true_eq, List.getLast?_eq_some_iff]
  unfold Lib.hasSuffix
  rw [List.isSuffixOf_iff_suffix]
  constructor
  · rintro ⟨t, ht⟩
    exact ⟨t, ht.symm⟩
  · rintro ⟨t, ht⟩
    exact ⟨t, ht.symm⟩
set_option maxRecDepth 100000 in
theorem goes_any (s : ByteArray) (w : World) (hs : s.size ≤ 1099511627776) (hT : Lib.Utf8Tabs 5 6 w) :
    Calls Tryz.prog 47 #[.string s] w fun e w' => e = .returned (.bool (goesV s)) ∧ Below w.heap.size w w' := by
  have hsu := Tryz.strings_HasSuffix s ⟨#[10]⟩ w (by omega)
  have hwh := whole_any true s w (by simp only [maxLen]; omega) hT
  have HSU := hide hsu; have HWH := hide hwh; clear hsu hwh hT
  by_cases h : s.data.toList.getLast? = some 10
  · have hv : Hid (goesV s = wholeP true s 0) := by unfold goesV; rw [Hid, decide_eq_true h, Bool.true_and]
    have hx : Hid (Lib.hasSuffix s.data.toList [10] = true) := by rw [Hid, hasSuffix_nl, decide_eq_true h]
    clear h
    go_enter Tryz.func47, Tryz.ntmps47
    go_wp2_with fail
    refine (unhide HSU).mono ?_
    rintro e w1 ⟨rfl, rfl⟩
    rw [hx.out]
    go_wp2_with fail
    refine (unhide HWH).mono ?_
    rintro e w2 ⟨rfl, hb⟩
    go_wp2_with fail
    go_ret
    exact ⟨by rw [hv.out]; rfl, hb⟩
  · have hv : Hid (goesV s = false) := by unfold goesV; rw [Hid, decide_eq_false h, Bool.false_and]
    have hx : Hid (Lib.hasSuffix s.data.toList [10] = false) := by rw [Hid, hasSuffix_nl, decide_eq_false h]
    clear h
    go_enter Tryz.func47, Tryz.ntmps47
    go_wp2_with fail
    refine (unhide HSU).mono ?_
    rintro e w1 ⟨rfl, rfl⟩
    rw [hx.out]
    go_wp2_with fail
    go_ret
    exact ⟨by rw [hv.out]; rfl, Below.refl _ _⟩
set_option maxRecDepth 100000 in
theorem rgoes_any (s : ByteArray) (w : World) (hs : s.size ≤ 1099511627776) :
    Calls Tryz.prog 31 #[.string s] w fun e w' => e = .returned (.bool (goesV s)) ∧ Below w.heap.size w w' := by
  have hll : s.data.toList.length = s.size := Array.length_toList
  have hpl := rplain_any true s w (by simp only [maxLen]; omega)
  have hwh := fun W => rwhole_any s W (by omega)
  have HPL := hide hpl; have HWH := hide hwh; clear hpl hwh
  rcases Nat.eq_zero_or_pos s.size with h0 | h0
  · have h00 : ((s.size : Int) == 0) = true := by rw [h0]; rfl
    have hv : Hid (goesV s = false) := by
      have : s.data.toList = [] := List.eq_nil_of_length_eq_zero (by omega)
      unfold goesV; rw [Hid, this]; rfl
    go_enter Tryz.func31, Tryz.ntmps31
    go_wp2_with fail
    go_ret
    exact ⟨by rw [hv.out]; rfl, Below.refl _ _⟩
  · have h00 : ((s.size : Int) == 0) = false := by rw [beq_eq_false_iff_ne]; omega
    have hlt : s.size - 1 < s.size := by omega
    have hix : (s[s.size - 1]'hlt).toNat < 256 := s[s.size - 1].toNat_lt
    have hm1 : (s.size : Int) - 1 = ((s.size - 1 : Nat) : Int) := by omega
    have hgl : Hid (s.data.toList.getLast? = some s[s.size - 1]) := by
      rw [Hid, List.getLast?_eq_getElem?, hll, List.getElem?_eq_getElem (by omega)]
      rfl
    by_cases hc : s[s.size - 1] = 10
    · have hcc : ((s[s.size - 1].toNat : Int) == 10) = true := by rw [hc]; rfl
      have hv : Hid (goesV s = (plainB true s 0 && validP s 0)) := by
        unfold goesV; rw [Hid, hgl.out, hc, decide_eq_true rfl, Bool.true_and, wholeP_eq]
      go_enter Tryz.func31, Tryz.ntmps31
      go_wp2_with fail
      refine (unhide HPL).mono ?_
      rintro e w1 ⟨rfl, rfl⟩
      go_wp2_with fail
      refine (unhide HWH _).mono ?_
      rintro e w2 ⟨rfl, hb⟩
      cases hp : plainB true s 0 with
      | false =>
        rw [hp] at hv
        go_wp2_with fail
        go_ret
        exact ⟨by rw [hv.out]; rfl, hb⟩
      | true =>
        rw [hp] at hv
        go_wp2_with fail
        go_ret
        exact ⟨by rw [hv.out]; rfl, hb⟩
    · have hcc : ((s[s.size - 1].toNat : Int) == 10) = false := by
        rw [beq_eq_false_iff_ne]
        exact fun e => hc (UInt8.toNat_inj.1 (by rw [show (10 : UInt8).toNat = 10 from rfl]; omega))
      have hv : Hid (goesV s = false) := by
        unfold goesV; rw [Hid, hgl.out, decide_eq_false (by simpa using hc), Bool.false_and]
      go_enter Tryz.func31, Tryz.ntmps31
      go_wp2_with fail
      go_ret
      exact ⟨by rw [hv.out]; rfl, Below.refl _ _⟩
end Go.Proofs.YtphoflcilpopgaaGreatDoor

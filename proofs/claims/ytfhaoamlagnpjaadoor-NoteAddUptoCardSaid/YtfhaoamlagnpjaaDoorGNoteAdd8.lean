/-
  Several texts in one: CONTRACTS of strings.Builder at this dump: copyCheck and WriteString (the shelf's could not be laid: the toy's body names one type more). | PLAIN LAW: a text that is gone through rune by rune, and one that is gone through byte by byte: the same texts are whole. | CONTRACTS of package note and of the document's answer for it: is a text whole? | WORDS on slices of texts: to be read (StrsAt), and rows that the call itself owns (OwnT). | CONTRACT of note.Text. | CONTRACT of package note: written.
-/
import Derived.Test.YtfhaoamlagnpjaaDoorRows
import Derived.Lib.FrozenHead
import Derived.Lib.OthersKept
import Derived.Lib.DecodeN
import Derived.Lib.RuneCount
import Derived.Lib.MapLaws
import Derived.Lib.RuneCountTail
import Derived.Laws.OwnMore
import Derived.Deep.RegionHeld3
import Derived.Test.YtfhaoamlagnpjaaDoorGNoteAdd1
import Derived.Test.YtfhaoamlagnpjaaDoorGNoteAdd7
import Derived.Test.YtfhaoamlagnpjaaDoorGNoteAdd2
import Derived.Test.YtfhaoamlagnpjaaDoorGNoteAdd3
set_option linter.unusedVariables false
set_option linter.unusedSimpArgs false
namespace Go.Proofs.YtfhaoamlagnpjaaDoor
open Go.RowKit Go.Lib
set_option maxRecDepth 100000 in
set_option maxHeartbeats 1000000 in
theorem copyCheck_fresh (B b : Nat) (bs : List Value) (w : World) (h : BuilderAtF 77 5 B b (.pointer none) bs w) :
    Calls Tryd.prog 77 #[.pointer (some ⟨b, 0, none⟩)] w fun e w' => e = .returned (.tuple #[]) ∧ w' = w.setCell ⟨b, 0, none⟩ (.pointer (some ⟨b, 0, none⟩)) := by
  have c0 := h.cell0
  have hs := h.shape
  have f0 : w.frozen? ⟨b, 0, none⟩ = false := h.frozen0
  go_enter Tryd.func77, Tryd.ntmps77
  obtain ⟨j, hj, hjs⟩ := Option.map_eq_some_iff.1 (show (Tryd.prog.info? 77).map (·.size) = some 2 by kernel_rfl)
  go_wp2
  rw [Lib.run_to_unsafe w ⟨b, 0, none⟩ Tryd.underlying74 Tryd.underlying145 hj (by rw [hjs]; decide) hs (Nat.zero_lt_succ 1)]
  simp only [Result.andThen]
  rw [Oper.upon_value]
  go_wp2
  rw [run_callFunc_extern Tryd.func104 (by kernel_rfl) (by kernel_rfl) (by kernel_rfl) (e := Extern.AbiNoEscape.same) (by kernel_rfl)]
  rw [Lib.run_noEscape]
  simp only [Result.andThen]
  rw [Oper.upon_value]
  go_wp2
  rw [Lib.run_from_unsafe w ⟨b, 0, none⟩ Tryd.underlying145 Tryd.underlying74 hj hs (by kernel_rfl)]
  simp only [Result.andThen]
  rw [Oper.upon_value]
  go_wp2
  go_end0
  exact ⟨rfl, rfl⟩
set_option maxRecDepth 100000 in
set_option maxHeartbeats 1000000 in
theorem copyCheck_used (b : Nat) (w : World) (h0 : w.cell? ⟨b, 0, none⟩ = some (.pointer (some ⟨b, 0, none⟩))) :
    Calls Tryd.prog 77 #[.pointer (some ⟨b, 0, none⟩)] w fun e w' => e = .returned (.tuple #[]) ∧ w' = w := by
  obtain ⟨j, hj, _⟩ := Option.map_eq_some_iff.1 (show (Tryd.prog.info? 77).map (·.size) = some 2 by kernel_rfl)
  go_enter Tryd.func77, Tryd.ntmps77
  go_wp2
  rw [Lib.run_neq_ptr_same w _ Tryd.underlying74 hj]
  go_wp2
  go_end0
  exact ⟨rfl, rfl⟩
theorem copyCheck_any (B b : Nat) (bs : List Value) (w : World) (h : Lib.IsBuilderF 77 5 B b bs w) :
    Calls Tryd.prog 77 #[.pointer (some ⟨b, 0, none⟩)] w fun e w' => e = .returned (.tuple #[]) ∧ (Lib.BuilderAtF 77 5 B b (.pointer (some ⟨b, 0, none⟩)) bs w' ∧ Below B w w' ∧ Lib.OthersKept 5 (some b) w w') := by
  rcases h with h | h
  · refine (copyCheck_fresh B b bs w h).mono ?_
    rintro e w' ⟨rfl, rfl⟩
    exact ⟨rfl, h.used _, (Below.refl B w).setCell (p := ⟨b, 0, none⟩) h.1 _, (Lib.OthersKept.refl _ _ w).setCell ⟨b, 0, none⟩ rfl _⟩
  · refine (copyCheck_used b w h.cell0).mono ?_
    rintro e w' ⟨rfl, rfl⟩
    exact ⟨rfl, h, Below.refl B _, Lib.OthersKept.refl _ _ _⟩
set_option maxRecDepth 100000 in
set_option maxHeartbeats 2000000 in
/-- WriteString. -/
theorem writeString_any (B b : Nat) (bs : List Value) (s : ByteArray) (w : World) (h : Lib.IsBuilderF 77 5 B b bs w) (hlen : bs.length + s.size ≤ 140737488355328) (hBw : B ≤ w.heap.size) :
    Calls Tryd.prog 42 #[.pointer (some ⟨b, 0, none⟩), .string s] w fun e w' => e = .returned (.tuple #[.int .i64 s.size, .nilIface]) ∧ (Lib.BuilderAtF 77 5 B b (.pointer (some ⟨b, 0, none⟩)) (bs ++ Lib.strCells s) w' ∧ Below B w w' ∧ Lib.OthersKept 5 (some b) w w') := by
  obtain ⟨i0, hi, hz0, hz1, hz2⟩ := info_parts (show (Tryd.prog.info? 5).map (fun i => (i.zero, i.size, i.bytes)) = some (some (.int .u8 0), 1, 1) by kernel_rfl)
  go_enter Tryd.func42, Tryd.ntmps42
  go_wp2_with fail
  refine (copyCheck_any B b bs _ h).mono ?_
  rintro e w1 ⟨rfl, h1, hb1, hk1⟩
  obtain ⟨hB, v, hbk, hown, hne⟩ := h1
  have c0 : w1.cell? ⟨b, 0, none⟩ = some (.pointer (some ⟨b, 0, none⟩)) := by rw [Lib.cell_of_heap hbk]; rfl
  have c1 : w1.cell? ⟨b, 1, none⟩ = some v := by rw [Lib.cell_of_heap hbk]; rfl
  go_wp2_with (at_builtin; refine Lib.wpList_append_own_stringF _ rfl _ _ 75 9 rfl B 5 i0 Tryd.underlying75 Tryd.underlying9 hi hz0 hz1 hz2 _ _ _ rfl hown s rfl ?c3 ?c4 ?c5 ?_)
  case c3 => unfold maxLen; omega
  case c4 => omega
  case c5 => have := hb1.size; omega
  intro v' w2 hown' hgrow _
  have hlt : b < w1.heap.size := by
    rcases Nat.lt_or_ge b w1.heap.size with h' | h'
    · exact h'
    · simp [Array.getElem?_eq_none h'] at hbk
  have hb2 : w2.heap[b]? = some (.cells #[.pointer (some ⟨b, 0, none⟩), v] 77 (0, 0)) := by
    rw [hgrow.block b hlt (fun e => hne e.symm)]
    exact hbk
  have d0 : w2.cell? ⟨b, 0, none⟩ = some (.pointer (some ⟨b, 0, none⟩)) := by rw [Lib.cell_of_heap hb2]; rfl
  have d1 : w2.cell? ⟨b, 1, none⟩ = some v := by rw [Lib.cell_of_heap hb2]; rfl
  have f1 : w2.frozen? ⟨b, 1, none⟩ = false := Lib.frozen_of_heap hb2 1
  obtain ⟨ao, n', cap, rfl⟩ : ∃ ao n' cap, v' = .slice ao n' cap := by
    rcases hown'.2 with ⟨hv, _⟩ | ⟨g, cap, cur, fz, hv, _⟩
    · exact ⟨_, _, _, hv⟩
    · exact ⟨_, _, _, hv⟩
  go_wp2
  go_ret2
  refine ⟨rfl, ?_, ?_, (hk1.grown hgrow (Lib.ownsRowF_kind hown)).setCell ⟨b, 1, none⟩ rfl _⟩
  · exact Lib.BuilderAtF.put (T := 77) (e := 5) hB hb2 (bs' := bs ++ Lib.strCells s) (by simpa [Lib.strCells_length] using hown') (by decide)
  · exact (hb1.grown hgrow (by have := hb1.size; omega) (fun k hk => (hown.lt k hk).1)).setCell (p := ⟨b, 1, none⟩) hB _
theorem builder_below {T e : TypeId} {B b : Nat} {bs : List Value} {w w' : World} (h : IsBuilderF T e B b bs w) (hb : Below w.heap.size w w') : IsBuilderF T e B b bs w' := by
  have key : ∀ p, BuilderAtF T e B b p bs w → BuilderAtF T e B b p bs w' := by
    rintro p ⟨hB, v, hbk, hown, hne⟩
    have hlt : b < w.heap.size := (Array.getElem?_eq_some_iff.1 hbk).1
    refine ⟨hB, v, (hb.block b hlt).trans hbk, hown.kept (only_of_below hb none) ?_, hne⟩
    cases v.ownBlock with
    | none => exact .inl rfl
    | some k => exact .inr (by simp)
  exact h.elim (fun x => .inl (key _ x)) (fun x => .inr (key _ x))
theorem builder_drew {T e : TypeId} {B b : Nat} {bs : List Value} {w : World} (h : IsBuilderF T e B b bs w) : IsBuilderF T e B b bs w.drew := h
theorem strCells_bytes (s : ByteArray) : Lib.strCells s = Lib.byteCells s.data.toList := by
  simp [Lib.strCells, Lib.byteCells]
end Go.Proofs.YtfhaoamlagnpjaaDoor

set_option linter.unusedVariables false
set_option linter.unusedSimpArgs false
namespace Go.Proofs.YtfhaoamlagnpjaaDoor
open Go.Lib
def okB (nl : Bool) (b : Nat) : Bool := decide (32 ≤ b) || (nl && b == 10)
/-- Rune by rune, as the program goes. -/
def wholeP (nl : Bool) (s : ByteArray) (pos : Nat) : Bool :=
  if h : pos < s.size then
    if (Utf8.decode s pos).1 = 65533 ∧ (Utf8.decode s pos).2 = 1 then false
    else if okB nl (Utf8.decode s pos).1 = false then false
    else wholeP nl s (pos + (Utf8.decode s pos).2)
  else true
termination_by s.size - pos
decreasing_by have := decode_width_pos s pos h; omega
def validP (s : ByteArray) (pos : Nat) : Bool :=
  if h : pos < s.size then
    if (Utf8.decode s pos).1 = 65533 ∧ (Utf8.decode s pos).2 = 1 then false
    else validP s (pos + (Utf8.decode s pos).2)
  else true
termination_by s.size - pos
decreasing_by have := decode_width_pos s pos h; omega
def plainB (nl : Bool) (s : ByteArray) (pos : Nat) : Bool := (s.data.toList.drop pos).all fun b => okB nl b.toNat
theorem get_at (s : ByteArray) (i : Nat) (h : i < s.size) : s.get! i = s[i] := by
  simp only [ByteArray.get!, ByteArray.getElem_eq_getElem_data]
  exact getElem!_pos s.data i h
theorem plainB_step (nl : Bool) (s : ByteArray) (pos : Nat) (h : pos < s.size) : plainB nl s pos = (okB nl (s.get! pos).toNat && plainB nl s (pos + 1)) := by
  unfold plainB
  rw [List.drop_eq_getElem_cons (by rw [Array.length_toList]; exact h), List.all_cons, get_at s pos h]
  rfl
theorem okB_high (nl : Bool) {b : Nat} (h : 32 ≤ b) : okB nl b = true := by simp [okB, h]
theorem wholeP_eq (nl : Bool) (s : ByteArray) (pos : Nat) : wholeP nl s pos = (plainB nl s pos && validP s pos) := by
  induction hn : s.size - pos using Nat.strongRecOn generalizing pos with
  | _ n ih =>
    rw [wholeP, validP]
    by_cases h : pos < s.size
    · rw [dif_pos h, dif_pos h]
      by_cases hb : (Utf8.decode s pos).1 = 65533 ∧ (Utf8.decode s pos).2 = 1
      · rw [if_pos hb, if_pos hb, Bool.and_false]
      · rw [if_neg hb, if_neg hb]
        have hw := decode_width_pos s pos h
        have ih' := ih _ (by omega) (pos + (Utf8.decode s pos).2) rfl
        rw [ih']
        have hd := decode_at s pos
        have hs := decodeN_shape (s.size - pos) (s.get! pos).toNat (s.get! (pos + 1)).toNat (s.get! (pos + 2)).toNat (s.get! (pos + 3)).toNat
        rw [← hd] at hs
        rcases hs with ⟨h0, e⟩ | ⟨h0, h1, h2, h3, e⟩ | ⟨h0, h1, h2, h3, h4, h5, e⟩ | ⟨h0, h1, h2, h3, h4, h5, h6, e⟩ | e
        · rw [e]
          simp only
          rw [plainB_step nl s pos h]
          cases okB nl (s.get! pos).toNat <;> simp
        · rw [e]
          simp only
          rw [okB_high nl (b := (s.get! pos).toNat % 32 * 64 + (s.get! (pos + 1)).toNat % 64) (by omega), plainB_step nl s pos h, plainB_step nl s (pos + 1) (by omega), okB_high nl (b := (s.get! pos).toNat) (by omega), okB_high nl (b := (s.get! (pos + 1)).toNat) (by omega)]
          simp
        · rw [e]
          simp only
          rw [okB_high nl (b := (s.get! pos).toNat % 16 * 4096 + (s.get! (pos + 1)).toNat % 64 * 64 + (s.get! (pos + 2)).toNat % 64) (by omega), plainB_step nl s pos h, plainB_step nl s (pos + 1) (by omega), plainB_step nl s (pos + 1 + 1) (by omega), okB_high nl (b := (s.get! pos).toNat) (by omega), okB_high nl (b := (s.get! (pos + 1)).toNat) (by omega), okB_high nl (b := (s.get! (pos + 1 + 1)).toNat) (by show 32 ≤ (s.get! (pos + 2)).toNat; omega)]
          simp
        · rw [e]
          simp only
          rw [okB_high nl (b := (s.get! pos).toNat % 8 * 262144 + (s.get! (pos + 1)).toNat % 64 * 4096 + (s.get! (pos + 2)).toNat % 64 * 64 + (s.get! (pos + 3)).toNat % 64) (by omega), plainB_step nl s pos h, plainB_step nl s (pos + 1) (by omega), plainB_step nl s (pos + 1 + 1) (by omega), plainB_step nl s (pos + 1 + 1 + 1) (by omega), okB_high nl (b := (s.get! pos).toNat) (by omega), okB_high nl (b := (s.get! (pos + 1)).toNat) (by omega), okB_high nl (b := (s.get! (pos + 1 + 1)).toNat) (by show 32 ≤ (s.get! (pos + 2)).toNat; omega), okB_high nl (b := (s.get! (pos + 1 + 1 + 1)).toNat) (by show 32 ≤ (s.get! (pos + 3)).toNat; omega)]
          simp
        · exact absurd (by rw [e]; exact ⟨rfl, rfl⟩) hb
    · rw [dif_neg h, dif_neg h]
      unfold plainB
      have hz : s.data.size = s.size := rfl
      rw [List.drop_eq_nil_of_le (by rw [Array.length_toList]; omega)]
      rfl
/-- Where U+FFFD is read: either its three bytes stand there, or one bad byte. -/
theorem fffd_at (s : ByteArray) (pos : Nat) (h : pos < s.size) (hr : (Utf8.decode s pos).1 = 65533) :
    ((Utf8.decode s pos).2 = 1) ↔ ¬ (pos + 3 ≤ s.size ∧ (s.get! pos).toNat = 239 ∧ (s.get! (pos + 1)).toNat = 191 ∧ (s.get! (pos + 2)).toNat = 189) := by
  have hd := decode_at s pos
  have hs := decodeN_shape (s.size - pos) (s.get! pos).toNat (s.get! (pos + 1)).toNat (s.get! (pos + 2)).toNat (s.get! (pos + 3)).toNat
  have u0 := (s.get! pos).toNat_lt
  have u1 := (s.get! (pos + 1)).toNat_lt
  have u2 := (s.get! (pos + 2)).toNat_lt
  have u3 := (s.get! (pos + 3)).toNat_lt
  constructor
  · intro h1 ⟨g0, g1, g2, g3⟩
    have : Utf8.decode s pos = (65533, 3) := by
      rw [hd, g1, g2, g3]
      unfold decodeN
      simp
      omega
    rw [this] at h1
    simp at h1
  · intro hn
    rw [← hd] at hs
    rcases hs with ⟨h0, e⟩ | ⟨h0, h1, h2, h3, e⟩ | ⟨h0, h1, h2, h3, h4, h5, e⟩ | ⟨h0, h1, h2, h3, h4, h5, h6, e⟩ | e
    · rw [e]
    · rw [e] at hr; simp only at hr; omega
    · rw [e] at hr; simp only at hr
      exact absurd ⟨by omega, by omega, by omega, by omega⟩ hn
    · rw [e] at hr; simp only at hr; omega
    · rw [e]
end Go.Proofs.YtfhaoamlagnpjaaDoor

set_option linter.unusedVariables false
set_option linter.unusedSimpArgs false
namespace Go.Proofs.YtfhaoamlagnpjaaDoor
open Go.RowKit Go.Lib
theorem Tabs.below {B g3 g4 : Nat} {w w' : World} (h : Lib.Utf8Tabs g3 g4 w) (hb : Below B w w') (h3 : g3 < B) (h4 : g4 < B) : Lib.Utf8Tabs g3 g4 w' :=
  ⟨fun c hc => (hb.cell (p := ⟨g3, c, none⟩) h3).trans (h.1 c hc), fun i hi => ⟨(hb.cell (p := ⟨g4, 2 * i, none⟩) h4).trans (h.2 i hi).1, (hb.cell (p := ⟨g4, 2 * i + 1, none⟩) h4).trans (h.2 i hi).2⟩⟩
theorem Tabs.lt3 {g3 g4 : Nat} {w : World} (h : Lib.Utf8Tabs g3 g4 w) : g3 < w.heap.size := World.block_lt_of_cell? w _ (h.1 0 (by omega))
theorem Tabs.lt4 {g3 g4 : Nat} {w : World} (h : Lib.Utf8Tabs g3 g4 w) : g4 < w.heap.size := World.block_lt_of_cell? w _ (h.2 0 (by omega)).1
theorem wholeP_in {nl : Bool} {s : ByteArray} {pos r wd : Nat} (h : pos < s.size) (hd : Utf8.decode s pos = (r, wd)) :
    wholeP nl s pos = if r = 65533 ∧ wd = 1 then false else if okB nl r = false then false else wholeP nl s (pos + wd) := by
  rw [wholeP, dif_pos h, hd]
theorem wholeP_end {nl : Bool} {s : ByteArray} {pos : Nat} (h : ¬ pos < s.size) : wholeP nl s pos = true := by
  rw [wholeP, dif_neg h]
set_option maxRecDepth 100000 in
set_option maxHeartbeats 1000000 in
theorem whole_any (nl : Bool) (s : ByteArray) (w : World) (hs : s.size ≤ maxLen) (hT : Lib.Utf8Tabs 3 4 w) :
    Calls Tryd.prog 45 #[.string s, .bool nl] w fun e w' => e = .returned (.bool (wholeP nl s 0)) ∧ Below w.heap.size w w' := by
  have hs' : s.size ≤ 9223372036854775807 := by simpa [maxLen] using hs
  have HT := hide hT; clear hT
  go_enter Tryd.func45, Tryd.ntmps45
  go_wp2_with fail
  go_loopw [] (fun wr => ∃ (pos : Nat), wr.heap[w.heap.size]? = some (.stringIter s pos) ∧ Below w.heap.size w wr ∧ Hid (wholeP nl s pos = wholeP nl s 0)) (fun wr => s.size - wr.iterPos w.heap.size)
  case atStart =>
    exact ⟨0, World.iter_heap w s 0, (Below.refl _ w).alloc (Nat.le_refl _) _, Lib.hid rfl⟩
  case round =>
    obtain ⟨pos, hit, hbw, hacc⟩ := hrel
    have hsz : w.heap.size < wr.heap.size := (Array.getElem?_eq_some_iff.1 hit).1
    have hpos : wr.iterPos w.heap.size = pos := iterPos_of hit
    by_cases hp : pos < s.size
    · have hwd := decode_width_pos s pos hp
      have hit2 := Lib.iterAt_heap wr w.heap.size s pos (pos + (Utf8.decode s pos).2) hit
      have hbw2 := Lib.below_iterAt hbw (k := w.heap.size) (Nat.le_refl _) s (pos + (Utf8.decode s pos).2)
      have hnx : ∀ ty, (Instr.next (.pointer (some ⟨w.heap.size, 0, none⟩)) true ty).run Tryd.prog wr = _ := fun ty => Lib.run_next_any_at wr w.heap.size s pos ty hit hp
      have hgo : Lib.decodeGo (s.extract pos s.size) = Utf8.decode s pos := by
        unfold Lib.decodeGo
        rw [if_neg (by simp; omega), tail_decode, Nat.add_zero]
      have hin := fun r wd => wholeP_in (nl := nl) (s := s) (pos := pos) (r := r) (wd := wd) hp
      generalize Utf8.decode s pos = d at hwd hit2 hbw2 hnx hgo hin
      obtain ⟨r, wd⟩ := d
      have hin' := hin r wd rfl
      rw [hacc.out] at hin'
      simp only at hwd hit2 hbw2 hnx
      have hsz2 : (wr.iterAt w.heap.size s (pos + wd)).heap.size = wr.heap.size := Lib.iterAt_size ..
      generalize hW : wr.iterAt w.heap.size s (pos + wd) = W at hit2 hbw2 hnx hsz2
      have hTW := Tabs.below (unhide HT) hbw2 (Tabs.lt3 (unhide HT)) (Tabs.lt4 (unhide HT))
      have hcall := Tryd.utf8_DecodeRuneInString (s.extract pos s.size) W hTW
      rw [hgo] at hcall
      have Hc := hide (And.intro hcall (And.intro hit2 (And.intro hbw2 hin'))); clear hcall hit2 hbw2 hin' hin hgo hTW hW
      rcases Decidable.em (r = 65533) with hr | hr
      · subst hr
        go_wp2_with fail
        refine (unhide Hc).1.mono ?_
        rintro e w1 ⟨rfl, hb1⟩
        have hit1 : w1.heap[w.heap.size]? = some (.stringIter s (pos + wd)) := by rw [hb1.block _ (by omega)]; exact (unhide Hc).2.1
        have hbw1 := (unhide Hc).2.2.1.trans (hb1.mono (by omega))
        have H1 := hide (And.intro hit1 hbw1); clear hit1 hbw1 hb1
        by_cases h1 : wd = 1
        · subst h1
          have hf : Hid (wholeP nl s 0 = false) := by rw [Hid, (unhide Hc).2.2.2]; simp
          go_wp2_with fail
          go_ret
          exact ⟨ret_bool hf.out.symm, (unhide H1).2⟩
        · have hb : ((wd : Int) == 1) = false := by simp; omega
          have hf : Hid (wholeP nl s (pos + wd) = wholeP nl s 0) := by rw [Hid, (unhide Hc).2.2.2, if_neg (by simpa using h1), if_neg (by rw [okB_high nl (by omega)]; simp)]
          go_wp2_with fail
          go_roundw
          case rel => exact ⟨pos + wd, (unhide H1).1, (unhide H1).2, hf⟩
          case measure =>
            rw [hpos, iterPos_of (unhide H1).1]
            omega
      · have hr0 : (((r : Nat) : Int) == 65533) = false := by simp; omega
        have hit1 := (unhide Hc).2.1
        have hbw1 := (unhide Hc).2.2.1
        have H1 := hide (And.intro hit1 hbw1); clear hit1 hbw1
        have hok : Hid (wholeP nl s 0 = if okB nl r = false then false else wholeP nl s (pos + wd)) := by
          rw [Hid, (unhide Hc).2.2.2, if_neg (by omega)]
        clear Hc
        by_cases h32 : r < 32
        · cases nl with
          | false =>
            have hf : Hid (wholeP false s 0 = false) := by rw [Hid, hok.out, if_pos (by simp [okB]; omega)]
            go_wp2_with fail
            go_ret
            exact ⟨ret_bool hf.out.symm, (unhide H1).2⟩
          | true =>
            by_cases h10 : r = 10
            · subst h10
              have hf : Hid (wholeP true s (pos + wd) = wholeP true s 0) := by rw [Hid, hok.out, if_neg (by simp [okB])]
              go_wp2_with fail
              go_roundw
              case rel => exact ⟨pos + wd, (unhide H1).1, (unhide H1).2, hf⟩
              case measure =>
                rw [hpos, iterPos_of (unhide H1).1]
                omega
            · have hn10 : (((r : Nat) : Int) == 10) = false := by simp; omega
              have hf : Hid (wholeP true s 0 = false) := by rw [Hid, hok.out, if_pos (by simp [okB]; omega)]
              go_wp2_with fail
              go_ret
              exact ⟨ret_bool hf.out.symm, (unhide H1).2⟩
        · have hf : Hid (wholeP nl s (pos + wd) = wholeP nl s 0) := by rw [Hid, hok.out, if_neg (by rw [okB_high nl (by omega)]; simp)]
          go_wp2_with fail
          go_roundw
          case rel => exact ⟨pos + wd, (unhide H1).1, (unhide H1).2, hf⟩
          case measure =>
            rw [hpos, iterPos_of (unhide H1).1]
            omega
    · have hnx : ∀ ty, (Instr.next (.pointer (some ⟨w.heap.size, 0, none⟩)) true ty).run Tryd.prog wr = _ := fun ty => Lib.run_next_end_at wr w.heap.size s pos ty hit hp
      have ht : Hid (wholeP nl s 0 = true) := by rw [Hid, ← hacc.out]; exact wholeP_end hp
      go_wp2_with fail
      go_ret
      exact ⟨ret_bool ht.out.symm, hbw⟩
end Go.Proofs.YtfhaoamlagnpjaaDoor

set_option linter.unusedVariables false
set_option linter.unusedSimpArgs false
namespace Go.Proofs.YtfhaoamlagnpjaaDoor
open Go.RowKit Go.Lib
/-- A slice of texts, to be read. -/
def StrsAt (w : World) (v : Value) (es : List ByteArray) : Prop :=
  ∃ A c, v = .slice A es.length c ∧ ∀ j (h : j < es.length), ∃ a, A = some a ∧ w.cell? (a.add j) = some (.string es[j])
theorem StrsAt.keep {w w' : World} {v : Value} {es : List ByteArray} (h : StrsAt w v es) (hk : ∀ p : Addr, p.block < w.heap.size → w'.cell? p = w.cell? p) : StrsAt w' v es := by
  obtain ⟨A, c, rfl, hc⟩ := h
  refine ⟨A, c, rfl, fun j hj => ?_⟩
  obtain ⟨a, rfl, h1⟩ := hc j hj
  exact ⟨a, rfl, (hk _ (World.block_lt_of_cell? w _ h1)).trans h1⟩
theorem StrsAt.below {w w' : World} {v : Value} {es : List ByteArray} (h : StrsAt w v es) (hb : Below w.heap.size w w') : StrsAt w' v es := h.keep fun p hp => hb.cell hp
theorem StrsAt.drew {w : World} {v : Value} {es : List ByteArray} (h : StrsAt w v es) : StrsAt w.drew v es := h
theorem StrsAt.alloc {w : World} {v : Value} {es : List ByteArray} (h : StrsAt w v es) (o : Obj) : StrsAt (w.alloc o) v es := h.keep fun p hp => World.cell?_alloc_lt w o p hp
/-- A row of texts that the call owns. -/
def OwnT (w : World) (base : Nat) (v : Value) (es : List ByteArray) : Prop := w.ownsRow base 9 1 v es.length (es.map Value.string)
theorem OwnT.nil (w : World) (base : Nat) : OwnT w base (.slice none 0 0) [] := World.ownsRow_nil w base _ _
theorem OwnT.form {w : World} {base : Nat} {v : Value} {es : List ByteArray} (h : OwnT w base v es) : (v = .slice none 0 0 ∧ es = []) ∨ ∃ g cap, v = .slice (some ⟨g, 0, none⟩) es.length cap ∧ base ≤ g ∧ g < w.heap.size ∧ es.length ≤ cap := by
  rcases h.2 with ⟨rfl, hn⟩ | ⟨g, cap, cur, rfl, hb, hg, hnc, _⟩
  · exact .inl ⟨rfl, List.eq_nil_of_length_eq_zero hn⟩
  · exact .inr ⟨g, cap, rfl, hb, (Array.getElem?_eq_some_iff.1 hg).1, hnc⟩
theorem OwnT.below {w w' : World} {base : Nat} {v : Value} {es : List ByteArray} (h : OwnT w base v es) (hb : Below w.heap.size w w') : OwnT w' base v es :=
  World.ownsRow.kept h (only_of_below hb none) (by cases hv : v.ownBlock <;> simp)
theorem OwnT.alloc {w : World} {base : Nat} {v : Value} {es : List ByteArray} (h : OwnT w base v es) (o : Obj) : OwnT (w.alloc o) base v es := World.ownsRow.alloc h o
theorem OwnT.drew {w : World} {base : Nat} {v : Value} {es : List ByteArray} (h : OwnT w base v es) : OwnT w.drew base v es := h
theorem OwnT.cell {w : World} {base g n cap : Nat} {es : List ByteArray} (h : OwnT w base (.slice (some ⟨g, 0, none⟩) n cap) es) (j : Nat) (hj : j < es.length) : w.cell? ⟨g, j, none⟩ = some (.string es[j]) := by
  have hn : n = es.length := by
    rcases h.form with ⟨hv, he⟩ | ⟨g', cap', hv, _⟩
    · cases hv
    · injection hv
  subst hn
  have := World.ownsRow.cellAt h j (by omega)
  rw [this]
  simp [hj]
theorem OwnT.strs {w : World} {base g n cap : Nat} {es : List ByteArray} (h : OwnT w base (.slice (some ⟨g, 0, none⟩) n cap) es) (m c : Nat) (hm : m ≤ es.length) : StrsAt w (.slice (some ⟨g, 0, none⟩) m c) (es.take m) := by
  refine ⟨some ⟨g, 0, none⟩, c, by rw [List.length_take, Nat.min_eq_left hm], fun j hj => ⟨_, rfl, ?_⟩⟩
  have hadd : (⟨g, 0, none⟩ : Addr).add j = ⟨g, j, none⟩ := by unfold Addr.add; split <;> simp_all
  rw [List.length_take] at hj
  rw [hadd, h.cell j (by omega)]
  simp
theorem strInfo : (Tryd.prog.info? 9).map (fun i => (i.zero, i.size, i.bytes)) = some (some (.string ⟨#[]⟩), 1, 16) := by kernel_rfl
theorem StrsAt.reads {w : World} {A : Option Addr} {m c : Nat} {es : List ByteArray} (h : StrsAt w (.slice A m c) es) : m = es.length ∧ Reads w w.heap.size 1 A m (es.map Value.string) := by
  obtain ⟨A', c', hv, hc⟩ := h
  injection hv with e1 e2 e3
  subst e1 e2 e3
  refine ⟨rfl, by simp, fun h0 => ?_⟩
  obtain ⟨a, rfl, h1⟩ := hc 0 h0
  have hb := World.block_lt_of_cell? w _ h1
  rw [block_of_add] at hb
  refine ⟨a, rfl, hb, fun j u hu => ?_⟩
  rw [List.getElem?_map, Option.map_eq_some_iff] at hu
  obtain ⟨x, hx, rfl⟩ := hu
  obtain ⟨hj, rfl⟩ := List.getElem?_eq_some_iff.1 hx
  obtain ⟨a', ha, h2⟩ := hc j hj
  injection ha with ha
  subst ha
  exact h2
/-- append(v, x...) of texts. -/
theorem wpList_appT {ops : Array Oper} {rest : List Oper} {o : Oper} {a : Act} {Q : Exit → Act → World → Prop} (w : World) (hgd : o.guard = none) (s x : Operand)
    (ho : o.op = .call { callee := .builtin .append, args := #[s, x], argTypes := #[32, 32] })
    {base : Nat} {v : Value} {es : List ByteArray} (hown : OwnT w base v es) (hs : a.eval s = v) {A : Option Addr} {m c : Nat} {es2 : List ByteArray} (hr : StrsAt w (.slice A m c) es2) (hx : a.eval x = .slice A m c)
    (h47 : es.length + es2.length ≤ 4398046511104) (hbase : base ≤ w.heap.size)
    (h : ∀ v' w', OwnT w' base v' (es ++ es2) → w.grownBy w' v.ownBlock → (v'.ownBlock = v.ownBlock ∨ v'.ownBlock = some w.heap.size) → wpList Tryd.prog ops Q rest (a.put o.dst v') w') : wpList Tryd.prog ops Q (o :: rest) a w := by
  obtain ⟨i, hi, hz, hs1, hb1⟩ := info_parts strInfo
  obtain ⟨hm, hrd⟩ := hr.reads
  refine wpList_append_any (w := w) hgd s x 32 ho base 9 i (.string ⟨#[]⟩) 1 16 Tryd.underlying32 hi hz hs1 hb1 rfl (by decide) v es.length (es.map Value.string) hs hown w.heap.size A m c (es2.map Value.string) hx hrd ?_ ?_ ?_ hbase ?_
  · intro u hu
    obtain ⟨y, _, rfl⟩ := List.mem_map.1 hu
    rfl
  · simp only [maxLen]; omega
  · omega
  · intro v' w' h1 h2 h3
    refine h v' w' ?_ h2 h3
    unfold OwnT
    rw [List.map_append, List.length_append, ← hm]
    exact h1
/-- append(v, x), x one text in a new block of one cell. -/
theorem wpList_appT1 {ops : Array Oper} {rest : List Oper} {o : Oper} {a : Act} {Q : Exit → Act → World → Prop} (w : World) (hgd : o.guard = none) (s x : Operand)
    (ho : o.op = .call { callee := .builtin .append, args := #[s, x], argTypes := #[32, 32] })
    {base : Nat} {v : Value} {es : List ByteArray} (hown : OwnT w base v es) (hs : a.eval s = v) {st : ByteArray} (hx : a.eval x = .slice (some ⟨w.heap.size, 0, none⟩) 1 1)
    (h47 : es.length + 1 ≤ 4398046511104) (hbase : base ≤ w.heap.size)
    (h : ∀ v' w', OwnT w' base v' (es ++ [st]) → (w.alloc (.cells #[.string st] 9)).grownBy w' v.ownBlock → (v'.ownBlock = v.ownBlock ∨ v'.ownBlock = some (w.heap.size + 1)) → wpList Tryd.prog ops Q rest (a.put o.dst v') w') :
    wpList Tryd.prog ops Q (o :: rest) a (w.alloc (.cells #[.string st] 9)) := by
  refine wpList_appT _ hgd s x ho (hown.alloc _) hs (es2 := [st]) ⟨some ⟨w.heap.size, 0, none⟩, 1, rfl, fun j hj => ⟨_, rfl, ?_⟩⟩ hx (by simpa using h47) (by simp; omega) (fun v' w' h1 h2 h3 => h v' w' h1 h2 (by simpa using h3))
  obtain rfl : j = 0 := by simp at hj; exact hj
  have hadd : (⟨w.heap.size, 0, none⟩ : Addr).add 0 = ⟨w.heap.size, 0, none⟩ := by unfold Addr.add; simp
  rw [hadd, (Blk.new w 9 #[.string st]).cell 0]
  rfl
end Go.Proofs.YtfhaoamlagnpjaaDoor

set_option linter.unusedVariables false
set_option linter.unusedSimpArgs false
namespace Go.Proofs.YtfhaoamlagnpjaaDoor
open Go.RowKit Go.Lib
theorem builder_lt {T e : TypeId} {B b : Nat} {bs : List Value} {w : World} (h : Lib.IsBuilderF T e B b bs w) : b < w.heap.size := h.elim (fun x => x.lt) (fun x => x.lt)
def headB (o : ByteArray) (n : Int) (r : ByteArray) : ByteArray := o ++ ⟨#[10]⟩ ++ decS n ++ ⟨#[10]⟩ ++ b64S r ++ ⟨#[10]⟩
def linesL (es : List ByteArray) : List UInt8 := es.flatMap fun x => x.data.toList ++ [10]
theorem linesL_ge : ∀ es : List ByteArray, es.length ≤ (linesL es).length
  | [] => by simp [linesL]
  | x :: r => by
    have := linesL_ge r
    simp [linesL] at this ⊢
    omega
def lineOk (x : ByteArray) : Bool := decide (x.size ≠ 0) && wholeP false x 0
/-- What is answered where origin, size and root are good. -/
def textM (o : ByteArray) (n : Int) (r : ByteArray) (es : List ByteArray) : Value :=
  if es.all lineOk = true then .tuple #[.string ⟨((headB o n r).data.toList ++ linesL es).toArray⟩, .int .i64 0] else .tuple #[.string ⟨#[]⟩, .int .i64 43]
theorem textM_no {o : ByteArray} {n : Int} {r : ByteArray} {es : List ByteArray} {k : Nat} (h : k < es.length) (hx : lineOk es[k] = false) : textM o n r es = .tuple #[.string ⟨#[]⟩, .int .i64 43] := by
  have : ¬ es.all lineOk = true := fun ha => by
    rw [List.all_eq_true] at ha
    have := ha _ (List.getElem_mem h)
    rw [hx] at this
    cases this
  unfold textM
  rw [if_neg this]
theorem textM_yes {o : ByteArray} {n : Int} {r : ByteArray} {es : List ByteArray} (h : ∀ j (h : j < es.length), lineOk es[j] = true) : textM o n r es = .tuple #[.string ⟨((headB o n r).data.toList ++ linesL es).toArray⟩, .int .i64 0] := by
  have : es.all lineOk = true := by
    rw [List.all_eq_true]
    intro x hx
    obtain ⟨j, hj, rfl⟩ := List.mem_iff_getElem.1 hx
    exact h j hj
  unfold textM
  rw [if_pos this]
theorem linesL_take_succ (es : List ByteArray) (k : Nat) (h : k < es.length) : linesL (es.take (k + 1)) = linesL (es.take k) ++ (es[k].data.toList ++ [10]) := by
  unfold linesL
  rw [List.take_succ_eq_append_getElem h, List.flatMap_append]
  simp
theorem linesL_take_le (es : List ByteArray) (k : Nat) : (linesL (es.take k)).length ≤ (linesL es).length := by
  have h : linesL es = linesL (es.take k) ++ linesL (es.drop k) := by
    unfold linesL
    rw [← List.flatMap_append, List.take_append_drop]
  rw [h, List.length_append]
  omega
theorem linesL_at (es : List ByteArray) (k : Nat) (h : k < es.length) : es[k].size + 1 ≤ (linesL es).length := by
  have h1 := linesL_take_le es (k + 1)
  rw [linesL_take_succ es k h] at h1
  simp at h1
  have : es[k].data.size = es[k].size := rfl
  omega
set_option maxRecDepth 100000 in
set_option maxHeartbeats 4000000 in
theorem text_main (o r : ByteArray) (n : Int) (v : Value) (es : List ByteArray) (w : World) (ho : o.size ≤ 1099511627776) (hl : (linesL es).length ≤ 1099511627776) (hv : StrsAt w v es) (hno : nameOk o = true) (h0 : 0 ≤ n) (h1 : n ≤ 4611686018427387904) (hr1 : 1 ≤ r.size) (hr2 : r.size ≤ 32) (hT : Lib.Utf8Tabs 3 4 w) :
    Calls Tryd.prog 16 #[.agg #[.string o, .int .i64 n, .string r, v]] w fun e w' => e = .returned (textM o n r es) ∧ Below w.heap.size w w' := by
  have Hno := hide hno; clear hno
  have HT := hide hT; clear hT
  obtain ⟨A, c, rfl, hel⟩ := hv
  have hel' : ∀ j (h : j < es.length), ∃ a, A = some a ∧ (a.add j).block < w.heap.size ∧ w.cell? (a.add j) = some (.string es[j]) := fun j h => by
    obtain ⟨a, e, hc⟩ := hel j h
    exact ⟨a, e, World.block_lt_of_cell? w _ hc, hc⟩
  have HEL := hide hel'; clear hel hel'
  have hnes : es.length ≤ 1099511627776 := Nat.le_trans (linesL_ge es) hl
  have Hl := hide hl; clear hl
  have hd := fun w => dec_any n w (by omega) (by omega)
  have hb := fun w => b64_any r w (by omega)
  have HD := hide hd; have HB := hide hb; clear hd hb
  have hds : (decS n).size ≤ 20 := by
    have := digL_length 19 n.toNat (by omega) (by omega)
    show (decL n).toArray.size ≤ 20
    unfold decL
    rw [if_pos h0, List.size_toArray]
    omega
  have hbs := b64S_size r
  have hbs' : (b64S r).size ≤ 44 := by omega
  go_enter Tryd.func16, Tryd.ntmps16
  go_wp2_with fail
  refine (name_any _ _ (by simp only [maxLen]; omega)).mono ?_
  rintro e w1 ⟨rfl, rfl⟩
  rw [unhide Hno]
  go_wp2_with fail
  obtain ⟨D, HDe⟩ : ∃ D, Hid (decS n = D) := ⟨_, Lib.hid rfl⟩
  obtain ⟨E, HEe⟩ : ∃ E, Hid (b64S r = E) := ⟨_, Lib.hid rfl⟩
  rw [HDe.out] at HD hds
  rw [HEe.out] at HB hbs'
  have hB0 : Lib.IsBuilderF 77 5 (w.heap.size + 1) (w.heap.size + 1) [] ((w.alloc (.cells #[.string o, .int .i64 n, .string r, .slice A es.length c] 34)).alloc (.cells #[.pointer none, .slice none 0 0] 77)) := by
    have h := Lib.IsBuilderF.of (Lib.fresh_isBuilder 77 5 (w.alloc (.cells #[.string o, .int .i64 n, .string r, .slice A es.length c] 34)))
    simpa using h
  have hC0 : Blk ((w.alloc (.cells #[.string o, .int .i64 n, .string r, .slice A es.length c] 34)).alloc (.cells #[.pointer none, .slice none 0 0] 77)) w.heap.size 34 #[.string o, .int .i64 n, .string r, .slice A es.length c] := (Blk.new w _ _).alloc _
  have hw0 : Below w.heap.size w ((w.alloc (.cells #[.string o, .int .i64 n, .string r, .slice A es.length c] 34)).alloc (.cells #[.pointer none, .slice none 0 0] 77)) := ((Below.refl _ _).alloc (Nat.le_refl _) _).alloc (by simp) _
  have hsz0 : ((w.alloc (.cells #[.string o, .int .i64 n, .string r, .slice A es.length c] 34)).alloc (.cells #[.pointer none, .slice none 0 0] 77)).heap.size = w.heap.size + 2 := by simp
  generalize ((w.alloc (.cells #[.string o, .int .i64 n, .string r, .slice A es.length c] 34)).alloc (.cells #[.pointer none, .slice none 0 0] 77)) = w0 at *
  have k0 := hC0.cell 0
  have k1 := hC0.cell 1
  have k2 := hC0.cell 2
  simp only [List.getElem?_toArray, List.getElem?_cons_zero, List.getElem?_cons_succ] at k0 k1 k2
  have e10 : (⟨#[10]⟩ : ByteArray).size = 1 := rfl
  have x1 : ¬ (9223372036854775807 < o.size + 1) := by omega
  have x2 : ¬ (9223372036854775807 < o.size + 1 + D.size) := by omega
  have x3 : ¬ (9223372036854775807 < o.size + 1 + D.size + 1) := by omega
  have x4 : ¬ (9223372036854775807 < o.size + 1 + D.size + 1 + E.size) := by omega
  have x5 : ¬ (9223372036854775807 < o.size + 1 + D.size + 1 + E.size + 1) := by omega
  have H0 := hide (And.intro hB0 (And.intro hC0 (And.intro hw0 hsz0))); clear hB0 hC0 hw0 hsz0
  go_region_held3 (fun W => W.cell? ⟨w.heap.size, 0, none⟩ = some (.string o) ∧ W.cell? ⟨w.heap.size, 1, none⟩ = some (.int .i64 n) ∧ W.cell? ⟨w.heap.size, 2, none⟩ = some (.string r)) (refine ⟨?_, ?_, ?_⟩ <;> assumption) (first | (go_at_call 43; refine (unhide HD _).mono ?_; rintro e w1 ⟨rfl, hb1⟩; have hC1 : Blk w1 w.heap.size 34 #[.string o, .int .i64 n, .string r, .slice A es.length c] := (unhide H0).2.1.drew.below hb1 (unhide H0).2.1.lt; have k10 := hC1.cell 0; have k11 := hC1.cell 1; have k12 := hC1.cell 2; simp only [List.getElem?_toArray, List.getElem?_cons_zero, List.getElem?_cons_succ] at k10 k11 k12) | (go_at_call 44; refine (unhide HB _).mono ?_; rintro e w2 ⟨rfl, hb2⟩; have hC2 : Blk w2 w.heap.size 34 #[.string o, .int .i64 n, .string r, .slice A es.length c] := hC1.below hb2 hC1.lt; have k20 := hC2.cell 0; have k21 := hC2.cell 1; have k22 := hC2.cell 2; simp only [List.getElem?_toArray, List.getElem?_cons_zero, List.getElem?_cons_succ] at k20 k21 k22) | (go_at_call 42; have hB2 := builder_below (builder_below (builder_drew (unhide H0).1) hb1) hb2; have hsz2 : w.heap.size + 1 ≤ w2.heap.size := by { have h1 := hb1.size; have h2 := hb2.size; have h3 := (unhide H0).2.2.2; simp at h1; omega }; refine (writeString_any _ _ [] _ w2 hB2 (by simp only [ByteArray.size_append, e10, List.length_nil]; omega) hsz2).mono ?_; rintro e w3 ⟨rfl, hB3, hb3, ho3⟩; have hC3 : Blk w3 w.heap.size 34 #[.string o, .int .i64 n, .string r, .slice A es.length c] := hC2.below hb3 (Nat.lt_succ_self _); have k30 := hC3.cell 0; have k31 := hC3.cell 1; have k32 := hC3.cell 2; simp only [List.getElem?_toArray, List.getElem?_cons_zero, List.getElem?_cons_succ] at k30 k31 k32))
  have s0 : w.heap.size ≤ w0.drew.heap.size := by have h := (unhide H0).2.2.2; show w.heap.size ≤ w0.heap.size; omega
  have hw1 : Below w.heap.size w w1 := (unhide H0).2.2.1.drew.trans (hb1.mono s0)
  have hw2 : Below w.heap.size w w2 := hw1.trans (hb2.mono hw1.size)
  have hw3 : Below w.heap.size w w3 := hw2.trans (hb3.mono (by omega))
  clear hw1 hw2 s0 e10
  rw [List.nil_append, strCells_bytes] at hB3
  have H3 := hide (And.intro hB3 (And.intro hC3 (And.intro hw3 hsz2))); clear hB3 hC3 hw3 hsz2 hB2 ho3 hb3 hb2 hb1 hC2 hC1 k0 k1 k2 k10 k11 k12 k20 k21 k22 k30 k31 k32
  have k33 := (unhide H3).2.1.cell 3
  simp only [List.getElem?_toArray, List.getElem?_cons_zero, List.getElem?_cons_succ] at k33
  go_wp2_with fail
  rename_i a1 a2 a3 a4 aK aQ
  have HF : Hid ((o ++ ⟨#[10]⟩ ++ D ++ ⟨#[10]⟩ ++ E ++ ⟨#[10]⟩ : ByteArray) = headB o n r) := by unfold headB; rw [HDe.out, HEe.out]; rfl
  have hF2 : (headB o n r).data.toList.length ≤ 2199023255552 := by
    rw [Array.length_toList]
    show (headB o n r).size ≤ _
    rw [← HF.out]
    simp only [ByteArray.size_append, show (⟨#[10]⟩ : ByteArray).size = 1 from rfl]
    omega
  have HF2 := hide hF2
  clear hF2 a1 a2 a3 a4 x1 x2 x3 x4 x5 h0 h1 hr1 hr2 k33 hds hbs hbs' H0
  have H4 : Hid (BuilderAtF 77 5 (w.heap.size + 1) (w.heap.size + 1) (.pointer (some ⟨w.heap.size + 1, 0, none⟩)) (Lib.byteCells ((headB o n r).data.toList ++ linesL (es.take 0))) w3 ∧ Below w.heap.size w w3) := by
    have h := (unhide H3).1
    rw [HF.out] at h
    refine ⟨?_, (unhide H3).2.2.1⟩
    rw [show linesL (es.take 0) = [] from rfl, List.append_nil]
    exact h
  clear H3
  go_loopw [49] (fun i wr => ∃ k : Nat, k ≤ es.length ∧ i = .int .i64 k ∧ Hid (∀ j (h : j < es.length), j < k → lineOk es[j] = true) ∧ BuilderAtF 77 5 (w.heap.size + 1) (w.heap.size + 1) (.pointer (some ⟨w.heap.size + 1, 0, none⟩)) (Lib.byteCells ((headB o n r).data.toList ++ linesL (es.take k))) wr ∧ Below w.heap.size w wr) (fun i _ => es.length - (RowKit.intOf i).toNat)
  case atStart => exact ⟨0, by omega, rfl, Lib.hid (fun j _ h => by omega), (unhide H4).1, (unhide H4).2⟩
  case round =>
    clear H4
    obtain ⟨k, hk, rfl, hok, hB, hb⟩ := hrel
    have HX := hide (And.intro hok (And.intro hB hb)); clear hok hB hb
    rcases Nat.lt_or_ge k es.length with hlt | hge
    · obtain ⟨a, rfl, hab, hac⟩ := unhide HEL k hlt
      have hcx : wr.cell? (a.add k) = some (.string es[k]) := ((unhide HX).2.2.cell hab).trans hac
      have hxs : es[k].size ≤ 1099511627776 := by have := linesL_at es k hlt; have := unhide Hl; omega
      have hno : Hid (∀ x, es[k] = x → lineOk x = false → textM o n r es = .tuple #[.string ⟨#[]⟩, .int .i64 43]) := fun x e h => textM_no hlt (by rw [e]; exact h)
      generalize hxe : es[k] = x at hcx hxs
      have HXE := Lib.hid hxe
      clear hab hac hxe
      have hwh := fun W (hT : Lib.Utf8Tabs 3 4 W) => whole_any false x W (by simp only [maxLen]; omega) hT
      have HWH := hide hwh; clear hwh
      by_cases hx0 : x.toList = []
      · have hres : Hid (textM o n r es = .tuple #[.string ⟨#[]⟩, .int .i64 43]) := hno.out x HXE.out (by
          rw [ByteArray.toList_eq] at hx0
          have : x.size = 0 := by have h := congrArg List.length hx0; rw [Array.length_toList] at h; exact h
          simp [lineOk, this])
        go_wp2_with fail
        go_ret2
        exact ⟨by rw [hres.out]; rfl, (unhide HX).2.2⟩
      · have hsz : Hid (x.size ≠ 0) := fun h => hx0 (by
          rw [ByteArray.toList_eq]
          exact List.eq_nil_of_length_eq_zero (by rw [Array.length_toList]; exact h))
        go_wp2_with fail
        refine (unhide HWH _ (Tabs.below (unhide HT) (unhide HX).2.2 (Tabs.lt3 (unhide HT)) (Tabs.lt4 (unhide HT)))).mono ?_
        rintro e w4 ⟨rfl, hb4⟩
        have hb4' := (unhide HX).2.2.trans (hb4.mono (unhide HX).2.2.size)
        have hB4 := builder_below (.inr (unhide HX).2.1) hb4
        have H4 := hide (And.intro hb4' hB4); clear hb4 hb4' hB4
        cases hwp : wholeP false x 0 with
        | false =>
          have hres : Hid (textM o n r es = .tuple #[.string ⟨#[]⟩, .int .i64 43]) := hno.out x HXE.out (by simp [lineOk, hwp])
          go_wp2_with fail
          go_ret2
          exact ⟨by rw [hres.out]; rfl, (unhide H4).1⟩
        | true =>
          have hyes : Hid (lineOk x = true) := by simp [Hid, lineOk, hwp, hsz.out]
          have y1 : ¬ (9223372036854775807 < x.size + 1) := by omega
          have hie : x.toList.isEmpty = false := by simpa using hx0
          go_wp2_with fail
          have hlen : (Lib.byteCells ((headB o n r).data.toList ++ linesL (es.take k))).length + (x ++ ⟨#[10]⟩ : ByteArray).size ≤ 140737488355328 := by
            have h1 := linesL_take_le es k
            have h2 := unhide Hl
            have h3 := unhide HF2
            rw [Lib.byteCells_length, List.length_append, ByteArray.size_append, show (⟨#[10]⟩ : ByteArray).size = 1 from rfl]
            omega
          have hlt4 := builder_lt (unhide H4).2
          have hws := writeString_any (w.heap.size + 1) (w.heap.size + 1) (Lib.byteCells ((headB o n r).data.toList ++ linesL (es.take k))) (x ++ ⟨#[10]⟩) w4 (unhide H4).2 hlen (Nat.le_of_lt hlt4)
          refine hws.mono ?_
          rintro e w5 ⟨rfl, hB5, hb5, ho5⟩
          have hb5' := (unhide H4).1.trans (hb5.mono (Nat.le_succ _))
          rw [strCells_bytes, ← Lib.byteCells_append] at hB5
          have H5 := hide (And.intro hB5 hb5'); clear hB5 hb5 hb5' ho5
          go_wp2_with fail
          go_roundw
          case rel =>
            refine ⟨k + 1, by omega, by go_num, Lib.hid (fun j hj hjk => ?_), ?_, (unhide H5).2⟩
            · rcases Nat.lt_succ_iff_lt_or_eq.1 hjk with h' | rfl
              · exact (unhide HX).1.out j hj h'
              · rw [HXE.out]; exact hyes.out
            · rw [linesL_take_succ es k hlt, HXE.out, ← List.append_assoc]
              have h := (unhide H5).1
              simpa using h
          case measure => simp [RowKit.intOf]; omega
    · have hke : k = es.length := by omega
      have hB := (unhide HX).2.1
      rw [List.take_of_length_le (by omega)] at hB
      have hres : Hid (textM o n r es = .tuple #[.string ⟨((headB o n r).data.toList ++ linesL es).toArray⟩, .int .i64 0]) := textM_yes (fun j h => (unhide HX).1.out j h (by omega))
      have hst := Tryd.Builder_String_any_k (w.heap.size + 1) (w.heap.size + 1) _ wr (.inr hB) (by have := builder_lt (.inr hB); omega)
      have HST := hide hst; clear hst hB
      go_wp2_with fail
      refine (unhide HST).mono ?_
      rintro e w6 ⟨rfl, -, hb6, -⟩
      have hb6' := (unhide HX).2.2.trans (hb6.mono (Nat.le_succ _))
      go_wp2_with fail
      go_ret2
      exact ⟨by rw [hres.out]; rfl, hb6'⟩
end Go.Proofs.YtfhaoamlagnpjaaDoor

set_option linter.unusedVariables false
set_option linter.unusedSimpArgs false
namespace Go.Proofs.YtfhaoamlagnpjaaDoor
open Go.RowKit Go.Lib
/-- A note. -/
def sigsL (xs : List SigR) : List UInt8 := xs.flatMap fun x => (sigLine x).data.toList
def writL (t : ByteArray) (xs : List SigR) : List UInt8 := t.data.toList ++ [10] ++ sigsL xs
def writB (t : ByteArray) (xs : List SigR) : ByteArray := ⟨(writL t xs).toArray⟩
/-- What written answers. -/
def writA (t : ByteArray) (xs : List SigR) : Value := if 65536 < (writL t xs).length then .tuple #[.string ⟨#[]⟩, .int .i64 121] else .tuple #[.string (writB t xs), .int .i64 0]
theorem sigsL_take_succ (xs : List SigR) (k : Nat) (h : k < xs.length) : sigsL (xs.take (k + 1)) = sigsL (xs.take k) ++ (sigLine xs[k]).data.toList := by
  unfold sigsL
  rw [List.take_succ_eq_append_getElem h, List.flatMap_append]
  simp
theorem sigsL_take_le (xs : List SigR) (k : Nat) : (sigsL (xs.take k)).length ≤ (sigsL xs).length := by
  have h : sigsL xs = sigsL (xs.take k) ++ sigsL (xs.drop k) := by
    unfold sigsL
    rw [← List.flatMap_append, List.take_append_drop]
  rw [h, List.length_append]
  omega
theorem sigLine_size (x : SigR) : (sigLine x).size = 6 + x.nm.size + (b64S (x.id ++ x.mc)).size := by
  unfold sigLine
  simp only [ByteArray.size_append, show (⟨#[226, 128, 148, 32]⟩ : ByteArray).size = 4 from rfl, show (⟨#[32]⟩ : ByteArray).size = 1 from rfl, show (⟨#[10]⟩ : ByteArray).size = 1 from rfl]
  omega
theorem sigsL_at (xs : List SigR) (k : Nat) (h : k < xs.length) : (sigLine xs[k]).size ≤ (sigsL xs).length := by
  have h1 := sigsL_take_le xs (k + 1)
  rw [sigsL_take_succ xs k h, List.length_append] at h1
  have h2 : (sigLine xs[k]).data.toList.length = (sigLine xs[k]).size := Array.length_toList
  omega
set_option maxRecDepth 100000 in
set_option maxHeartbeats 4000000 in
theorem written_any (t : ByteArray) (v : Value) (xs : List SigR) (base : Nat) (w : World) (ht : t.size ≤ 1099511627776) (hx : (sigsL xs).length ≤ 1099511627776) (hxb : ∀ x ∈ xs, x.id.size ≤ 1099511627776 ∧ x.mc.size ≤ 1099511627776) (hn : xs.length ≤ 1099511627776) (hO : OwnG w base v xs) :
    Calls Tryd.prog 61 #[.string t, v] w fun e w' => e = .returned (writA t xs) ∧ Below w.heap.size w w' := by
  obtain ⟨A, c, rfl⟩ := hO.slice
  have hcell : ∀ j (hj : j < xs.length), ∃ g, A = some ⟨g, 0, none⟩ ∧ g < w.heap.size ∧ w.cell? ⟨g, j * 3, none⟩ = some (.string xs[j].nm) ∧ w.cell? ⟨g, j * 3 + 1, none⟩ = some (.string xs[j].id) ∧ w.cell? ⟨g, j * 3 + 2, none⟩ = some (.string xs[j].mc) := fun j hj => by
    rcases hO.form with ⟨_, he⟩ | ⟨g, cap, hv, h1, h2, h3⟩
    · rw [he] at hj; simp at hj
    · injection hv with e1 e2 e3
      subst e1 e3
      exact ⟨g, rfl, h2, hO.cell j 0 hj (by omega), hO.cell j 1 hj (by omega), hO.cell j 2 hj (by omega)⟩
  have HC := hide hcell; have HX := hide hx; have HXB := hide hxb; clear hcell hO hx hxb
  have x1 : ¬ (9223372036854775807 < t.size + 1) := by omega
  go_enter Tryd.func61, Tryd.ntmps61
  go_wp2_with fail
  have hB0 : Lib.IsBuilderF 77 5 w.heap.size w.heap.size [] (w.alloc (.cells #[.pointer none, .slice none 0 0] 77)) := Lib.IsBuilderF.of (Lib.fresh_isBuilder 77 5 w)
  have hb0 : Below w.heap.size w (w.alloc (.cells #[.pointer none, .slice none 0 0] 77)) := (Below.refl _ _).alloc (Nat.le_refl _) _
  have hs10 : ([] : List Value).length + (t ++ ⟨#[10]⟩ : ByteArray).size ≤ 140737488355328 := by
    rw [ByteArray.size_append, show (⟨#[10]⟩ : ByteArray).size = 1 from rfl, List.length_nil]
    omega
  generalize (w.alloc (.cells #[.pointer none, .slice none 0 0] 77)) = w0 at *
  have hws := writeString_any w.heap.size w.heap.size [] (t ++ ⟨#[10]⟩) w0 hB0 hs10 hb0.size
  refine hws.mono ?_
  rintro e w1 ⟨rfl, hB1, hb1, -⟩
  rw [List.nil_append, strCells_bytes] at hB1
  have H1 := hide (And.intro hB1 (hb0.trans hb1)); clear hB0 hb0 hB1 hb1
  have hF : (t ++ ⟨#[10]⟩ : ByteArray).data.toList = writL t (xs.take 0) := by
    unfold writL sigsL
    rw [ByteArray.data_append, Array.toList_append]
    simp
  rw [hF] at H1
  clear hF hs10 hws
  go_wp2_with fail
  go_loopw [14] (fun i wr => ∃ k : Nat, k ≤ xs.length ∧ i = .int .i64 k ∧ BuilderAtF 77 5 w.heap.size w.heap.size (.pointer (some ⟨w.heap.size, 0, none⟩)) (Lib.byteCells (writL t (xs.take k))) wr ∧ Below w.heap.size w wr) (fun i _ => xs.length - (RowKit.intOf i).toNat)
  case atStart => exact ⟨0, by omega, rfl, (unhide H1).1, (unhide H1).2⟩
  case round =>
    clear H1
    obtain ⟨k, hk, rfl, hB, hb⟩ := hrel
    rcases Nat.lt_or_ge k xs.length with hlt | hge
    · obtain ⟨g, rfl, hg, c0, c1, c2⟩ := unhide HC k hlt
      have c0' := (hb.cell (p := ⟨g, k * 3, none⟩) hg).trans c0
      have c1' := (hb.cell (p := ⟨g, k * 3 + 1, none⟩) hg).trans c1
      have c2' := (hb.cell (p := ⟨g, k * 3 + 2, none⟩) hg).trans c2
      have hk2 : (k : Int) < (xs.length : Int) := by omega
      have hsz := sigsL_at xs k hlt
      have hsl := sigLine_size xs[k]
      have hxk := unhide HXB _ (List.getElem_mem hlt)
      have hnx : Hid (writL t (xs.take (k + 1)) = writL t (xs.take k) ++ (sigLine xs[k]).data.toList) := by
        unfold writL
        rw [Hid, sigsL_take_succ xs k hlt, ← List.append_assoc]
      have hwl : Hid ((writL t (xs.take k)).length ≤ t.size + 1 + (sigsL xs).length) := by
        have := sigsL_take_le xs k
        unfold writL
        rw [Hid, List.length_append, List.length_append, Array.length_toList]
        show t.size + 1 + _ ≤ _
        omega
      generalize xs[k] = x at *
      obtain ⟨xn, xi, xm⟩ := x
      simp only at hxk hsl c0' c1' c2'
      have HX' := unhide HX
      have hb64 := fun W => b64_any (xi ++ xm) W (by rw [ByteArray.size_append]; omega)
      have hline : Hid (sigLine ⟨xn, xi, xm⟩ = ⟨#[226, 128, 148, 32]⟩ ++ xn ++ ⟨#[32]⟩ ++ b64S (xi ++ xm) ++ ⟨#[10]⟩) := rfl
      obtain ⟨D, hD⟩ : ∃ D, Hid (b64S (xi ++ xm) = D) := ⟨_, Lib.hid rfl⟩
      rw [hD.out] at hb64 hline hsl
      have y0 : ¬ 9223372036854775807 < 4 + xn.size := by omega
      have y1 : ¬ 9223372036854775807 < 4 + xn.size + 1 := by omega
      have y2 : ¬ 9223372036854775807 < xi.size + xm.size := by omega
      have y3 : ¬ 9223372036854775807 < 4 + xn.size + 1 + D.size := by omega
      have y4 : ¬ 9223372036854775807 < 4 + xn.size + 1 + D.size + 1 := by omega
      have hw1 : (Lib.byteCells (writL t (xs.take k))).length + (sigLine ⟨xn, xi, xm⟩).size ≤ 140737488355328 := by
        rw [Lib.byteCells_length]
        have := hwl.out
        omega
      rw [hline.out] at hw1
      have HBB := hide hb64; have HW1 := hide hw1; have HXX := hide (And.intro hB hb)
      clear hb64 hw1 hB hb c0 c1 c2 hsz hsl hxk HX' 
      have e4 : (⟨#[226, 128, 148, 32]⟩ : ByteArray).size = 4 := rfl
      have e1 : (⟨#[32]⟩ : ByteArray).size = 1 := rfl
      have e10 : (⟨#[10]⟩ : ByteArray).size = 1 := rfl
      go_wp2_with fail
      have hA0 := Blk.new wr 71 #[.string xn, .string xi, .string xm]
      have hbA : Below w.heap.size w (wr.alloc (.cells #[.string xn, .string xi, .string xm] 71)) := (unhide HXX).2.alloc (unhide HXX).2.size _
      have hBA := builder_below (Or.inr (unhide HXX).1) ((Below.refl wr.heap.size wr).alloc (Nat.le_refl _) (.cells #[.string xn, .string xi, .string xm] 71))
      have hge : w.heap.size < wr.heap.size := builder_lt (Or.inr (unhide HXX).1)
      generalize (wr.alloc (.cells #[.string xn, .string xi, .string xm] 71)) = wa at *
      generalize wr.heap.size = gx at *
      have k0 := hA0.cell 0; have k1 := hA0.cell 1; have k2 := hA0.cell 2
      simp only [List.getElem?_toArray, List.getElem?_cons_zero, List.getElem?_cons_succ] at k0 k1 k2
      have HA := hide (And.intro hA0 (And.intro hbA (And.intro hBA hge))); clear hA0 hbA hBA hge c0' c1' c2'
      go_region_held3 (fun W => W.cell? ⟨gx, 0, none⟩ = some (.string xn) ∧ W.cell? ⟨gx, 1, none⟩ = some (.string xi) ∧ W.cell? ⟨gx, 2, none⟩ = some (.string xm)) (refine ⟨?_, ?_, ?_⟩ <;> assumption) (first | (go_at_call 44; refine (unhide HBB _).mono ?_; rintro e w2 ⟨rfl, hb2⟩; have hA2 := (unhide HA).1.drew.below hb2 (unhide HA).1.lt; have hB2 := builder_below (builder_drew (unhide HA).2.2.1) hb2; have k20 := hA2.cell 0; have k21 := hA2.cell 1; have k22 := hA2.cell 2; simp only [List.getElem?_toArray, List.getElem?_cons_zero, List.getElem?_cons_succ] at k20 k21 k22) | (go_at_call 42; have hws := writeString_any w.heap.size w.heap.size (Lib.byteCells (writL t (xs.take k))) (⟨#[226, 128, 148, 32]⟩ ++ xn ++ ⟨#[32]⟩ ++ D ++ ⟨#[10]⟩) w2 hB2 (unhide HW1) (Nat.le_of_lt (builder_lt hB2)); refine hws.mono ?_; rintro e w3 ⟨rfl, hB3, hb3, ho3⟩; have hA3 : Blk w3 gx 71 #[.string xn, .string xi, .string xm] := ho3 gx _ hA2 (by intro e; injection e with e; have h1 := (unhide HA).2.2.2; omega) (by intro c fz e; injection e with e1 e2 e3; revert e2; decide); have k30 := hA3.cell 0; have k31 := hA3.cell 1; have k32 := hA3.cell 2; simp only [List.getElem?_toArray, List.getElem?_cons_zero, List.getElem?_cons_succ] at k30 k31 k32))
      have hb3' : Below w.heap.size w w3 := ((unhide HA).2.1.drew.trans (hb2.mono (unhide HA).2.1.size)).trans hb3
      rw [strCells_bytes, ← Lib.byteCells_append, ← hline.out, ← hnx.out] at hB3
      have H3 := hide (And.intro hB3 hb3')
      clear hB3 hb3' hb2 hb3 hA2 hB2 hws ho3 hA3 k20 k21 k22 k30 k31 k32 k0 k1 k2
      go_wp2_with fail
      go_roundw
      case rel => exact ⟨k + 1, by omega, by go_num, (unhide H3).1, (unhide H3).2⟩
      case measure => simp [RowKit.intOf]; omega
    · have hk2 : ¬ (k : Int) < (xs.length : Int) := by omega
      rw [List.take_of_length_le hge] at hB
      have hlen := Tryd.Builder_Len_f w.heap.size w.heap.size _ wr (.inr hB)
      have hst := Tryd.Builder_String_any_k w.heap.size w.heap.size _ wr (.inr hB) hb.size
      rw [Lib.byteCells_length] at hlen
      have HL := hide hlen; have HS := hide hst; have HB := hide hb; clear hlen hst hb hB
      rcases Nat.lt_or_ge 65536 (writL t xs).length with h6 | h6
      · have hr : Hid (writA t xs = .tuple #[.string ⟨#[]⟩, .int .i64 121]) := by unfold writA; rw [Hid, if_pos h6]
        have h6' : (65536 : Int) < ((writL t xs).length : Int) := by omega
        go_wp2_with fail
        refine (unhide HL).mono ?_
        rintro e w2 ⟨rfl, rfl⟩
        go_wp2_with fail
        go_ret2
        exact ⟨by rw [hr.out]; rfl, unhide HB⟩
      · have hr : Hid (writA t xs = .tuple #[.string (writB t xs), .int .i64 0]) := by unfold writA; rw [Hid, if_neg (by omega)]
        have h6' : ¬ (65536 : Int) < ((writL t xs).length : Int) := by omega
        go_wp2_with fail
        refine (unhide HL).mono ?_
        rintro e w2 ⟨rfl, rfl⟩
        go_wp2_with fail
        refine (unhide HS).mono ?_
        rintro e w3 ⟨rfl, -, hb3, -⟩
        have hb3' := (unhide HB).trans hb3
        have H3 := hide hb3'; clear hb3 hb3'
        go_wp2_with fail
        go_ret2
        exact ⟨by rw [hr.out]; rfl, unhide H3⟩
end Go.Proofs.YtfhaoamlagnpjaaDoor

/-
  Several texts in one: CONTRACTS of the document's answer for note: plain and whole. | CONTRACT of note.Text: the refusals ahead of the lines, and all ways together. | CONTRACT of the document's Text. | CONTRACT of the document's answer for note: written. | CONTRACTS of package note and of the document's answer for it: goes. | WORDS on keys: to be read out of a slice, and what note.Sign answers. | CONTRACTS: note.ID and the document's ID. | THE PLAIN LAW of base64 read back: whoever reads what was written finds it, the program's way and the document's. | WORDS on base64 read back: the answer as a value.
-/
import Derived.Test.YtfhaoamlagnpjaaDoorRows
import Derived.Lib.OthersKept
import Derived.Lib.RuneCountTail
import Derived.Deep.RegionHeld3
import Derived.StillTailTactics
import Derived.Test.YtfhaoamlagnpjaaDoorGNoteAdd1
import Derived.Test.YtfhaoamlagnpjaaDoorGNoteAdd7
import Derived.Test.YtfhaoamlagnpjaaDoorGNoteAdd2
import Derived.Test.YtfhaoamlagnpjaaDoorGNoteAdd8
import Derived.Test.YtfhaoamlagnpjaaDoorGNoteAdd6
import Derived.Test.YtfhaoamlagnpjaaDoorGNoteAdd3
set_option linter.unusedVariables false
set_option linter.unusedSimpArgs false
namespace Go.Proofs.YtfhaoamlagnpjaaDoor
open Go.RowKit Go.Lib
theorem plainB_end (nl : Bool) (s : ByteArray) (pos : Nat) (h : ¬ pos < s.size) : plainB nl s pos = true := by
  have hz : s.data.size = s.size := rfl
  unfold plainB
  rw [List.drop_eq_nil_of_le (by rw [Array.length_toList]; omega)]
  rfl
theorem plainB_in (nl : Bool) (s : ByteArray) (pos : Nat) (h : pos < s.size) : plainB nl s pos = (okB nl (s[pos]).toNat && plainB nl s (pos + 1)) := by
  rw [plainB_step nl s pos h, get_at s pos h]
set_option maxRecDepth 100000 in
set_option maxHeartbeats 1000000 in
theorem rplain_any (nl : Bool) (s : ByteArray) (w : World) (hs : s.size ≤ maxLen) :
    Calls Tryd.prog 49 #[.string s, .bool nl] w fun e w' => e = .returned (.bool (plainB nl s 0)) ∧ w = w' := by
  have hs' : s.size ≤ 9223372036854775807 := by simpa [maxLen] using hs
  go_enter Tryd.func49, Tryd.ntmps49
  go_wp2_with fail
  go_loopw [5] (fun i wr => ∃ (k : Nat), i = .int .i64 k ∧ k ≤ s.size ∧ Hid (w = wr) ∧ Hid (plainB nl s k = plainB nl s 0)) (fun i _ => s.size - (RowKit.intOf i).toNat)
  case atStart => exact ⟨0, rfl, by omega, Lib.hid rfl, Lib.hid rfl⟩
  case round =>
    obtain ⟨k, rfl, hk, hw, hacc⟩ := hrel
    obtain rfl := hw.out
    by_cases hp : k < s.size
    · have hin := plainB_in nl s k hp
      rw [hacc.out] at hin
      have Hin := Lib.hid hin; clear hin
      by_cases h32 : s[k].toNat < 32
      · have h32' : (s[k].toNat : Int) < 32 := by omega
        cases nl with
        | false =>
          have hf : Hid (plainB false s 0 = false) := by rw [Hid, Hin.out]; simp [okB]; omega
          go_wp2_with fail
          go_ret
          exact ⟨ret_bool hf.out.symm, rfl⟩
        | true =>
          by_cases h10 : s[k].toNat = 10
          · have h10' : ((s[k].toNat : Int) == 10) = true := by simp; omega
            have hf : Hid (plainB true s (k + 1) = plainB true s 0) := by rw [Hid, Hin.out]; simp [okB, h10]
            go_wp2_with fail
            refine ⟨⟨k + 1, by go_num, by omega, Lib.hid trivial, hf⟩, by simp [RowKit.intOf]; omega⟩
          · have h10' : ((s[k].toNat : Int) == 10) = false := by simp; omega
            have hf : Hid (plainB true s 0 = false) := by rw [Hid, Hin.out]; simp [okB, h10]; omega
            go_wp2_with fail
            go_ret
            exact ⟨ret_bool hf.out.symm, rfl⟩
      · have h32' : ¬ (s[k].toNat : Int) < 32 := by omega
        have hf : Hid (plainB nl s (k + 1) = plainB nl s 0) := by rw [Hid, Hin.out, okB_high nl (by omega)]; simp
        go_wp2_with fail
        refine ⟨⟨k + 1, by go_num, by omega, Lib.hid trivial, hf⟩, by simp [RowKit.intOf]; omega⟩
    · have ht : Hid (plainB nl s 0 = true) := by rw [Hid, ← hacc.out]; exact plainB_end nl s k hp
      go_wp2_with fail
      go_ret
      exact ⟨ret_bool ht.out.symm, rfl⟩
theorem validP_in {s : ByteArray} {pos r wd : Nat} (h : pos < s.size) (hd : Utf8.decode s pos = (r, wd)) :
    validP s pos = if r = 65533 ∧ wd = 1 then false else validP s (pos + wd) := by
  rw [validP, dif_pos h, hd]
theorem validP_end {s : ByteArray} {pos : Nat} (h : ¬ pos < s.size) : validP s pos = true := by
  rw [validP, dif_neg h]
theorem three_at (s : ByteArray) (pos : Nat) (h : pos + 3 ≤ s.size) : (s.extract pos (pos + 3) = ⟨#[239, 191, 189]⟩) ↔ ((s.get! pos).toNat = 239 ∧ (s.get! (pos + 1)).toNat = 191 ∧ (s.get! (pos + 2)).toNat = 189) := by
  have hz : s.data.size = s.size := rfl
  have e : (s.extract pos (pos + 3)).data.toList = [s.get! pos, s.get! (pos + 1), s.get! (pos + 2)] := by
    rw [bytes_extract _ _ _ h, show pos + 3 - pos = 3 from by omega, get_at s pos (by omega), get_at s (pos + 1) (by omega), get_at s (pos + 2) (by omega)]
    rw [List.drop_eq_getElem_cons (by rw [Array.length_toList]; omega), List.drop_eq_getElem_cons (i := pos + 1) (by rw [Array.length_toList]; omega), List.drop_eq_getElem_cons (i := pos + 1 + 1) (by rw [Array.length_toList]; omega)]
    rfl
  constructor
  · intro h1
    rw [h1] at e
    injection e with e0 e
    injection e with e1 e
    injection e with e2 e
    rw [← e0, ← e1, ← e2]
    decide
  · rintro ⟨h0, h1, h2⟩
    apply ByteArray.ext
    apply Array.ext'
    rw [e]
    have f0 : s.get! pos = 239 := UInt8.toNat_inj.1 h0
    have f1 : s.get! (pos + 1) = 191 := UInt8.toNat_inj.1 h1
    have f2 : s.get! (pos + 2) = 189 := UInt8.toNat_inj.1 h2
    rw [f0, f1, f2]
set_option maxRecDepth 100000 in
set_option maxHeartbeats 1000000 in
theorem rwhole_any (s : ByteArray) (w : World) (hs : s.size ≤ 35184372088832) :
    Calls Tryd.prog 50 #[.string s] w fun e w' => e = .returned (.bool (validP s 0)) ∧ Below w.heap.size w w' := by
  go_enter Tryd.func50, Tryd.ntmps50
  go_wp2_with fail
  go_loopw [] (fun wr => ∃ (pos : Nat), wr.heap[w.heap.size]? = some (.stringIter s pos) ∧ Below w.heap.size w wr ∧ Hid (validP s pos = validP s 0)) (fun wr => s.size - wr.iterPos w.heap.size)
  case atStart =>
    exact ⟨0, World.iter_heap w s 0, (Below.refl _ w).alloc (Nat.le_refl _) _, Lib.hid rfl⟩
  case round =>
    obtain ⟨pos, hit, hbw, hacc⟩ := hrel
    have hsz : w.heap.size < wr.heap.size := (Array.getElem?_eq_some_iff.1 hit).1
    have hpos : wr.iterPos w.heap.size = pos := iterPos_of hit
    by_cases hp : pos < s.size
    · have hwd := decode_width_pos s pos hp
      have hff := fffd_at s pos hp
      have hit2 := Lib.iterAt_heap wr w.heap.size s pos (pos + (Utf8.decode s pos).2) hit
      have hbw2 := Lib.below_iterAt hbw (k := w.heap.size) (Nat.le_refl _) s (pos + (Utf8.decode s pos).2)
      have hnx : ∀ ty, (Instr.next (.pointer (some ⟨w.heap.size, 0, none⟩)) true ty).run Tryd.prog wr = _ := fun ty => Lib.run_next_any_at wr w.heap.size s pos ty hit hp
      have hin := fun r wd => validP_in (s := s) (pos := pos) (r := r) (wd := wd) hp
      generalize Utf8.decode s pos = d at hwd hit2 hbw2 hnx hin hff
      obtain ⟨r, wd⟩ := d
      have hin' := hin r wd rfl
      rw [hacc.out] at hin'
      simp only at hwd hit2 hbw2 hnx hff
      generalize hW : wr.iterAt w.heap.size s (pos + wd) = W at hit2 hbw2 hnx
      have Hc := hide (And.intro hit2 (And.intro hbw2 hin')); clear hit2 hbw2 hin' hin hW
      by_cases hr : r = 65533
      · subst hr
        have Hff := hide (hff rfl); clear hff
        rcases Nat.lt_or_ge s.size (pos + 3) with h3 | h3
        · have h1 : wd = 1 := (unhide Hff).2 (by omega)
          have hf : Hid (validP s 0 = false) := by rw [Hid, (unhide Hc).2.2]; simp [h1]
          have h3' : (s.size : Int) < pos + 3 := by omega
          go_wp2_with fail
          go_ret
          exact ⟨ret_bool hf.out.symm, (unhide Hc).2.1⟩
        · have h3' : ¬ (s.size : Int) < pos + 3 := by omega
          have h3'' : (pos : Int) + 3 ≤ s.size := by omega
          have h0 : (0 : Int) ≤ pos := by omega
          by_cases he : s.extract pos (pos + 3) = ⟨#[239, 191, 189]⟩
          · have h1 : ¬ wd = 1 := fun h => ((unhide Hff).1 h) ⟨h3, (three_at s pos h3).1 he⟩
            have hf : Hid (validP s (pos + wd) = validP s 0) := by rw [Hid, (unhide Hc).2.2]; simp [h1]
            go_wp2_with fail
            go_roundw
            case rel => exact ⟨pos + wd, (unhide Hc).1, (unhide Hc).2.1, hf⟩
            case measure =>
              rw [hpos, iterPos_of (unhide Hc).1]
              omega
          · have h1 : wd = 1 := (unhide Hff).2 (fun h => he ((three_at s pos h3).2 h.2))
            have hf : Hid (validP s 0 = false) := by rw [Hid, (unhide Hc).2.2]; simp [h1]
            have he' : ((s.extract pos (pos + 3)).toList == [239, 191, 189]) = false := by
              rw [beq_eq_false_iff_ne]
              intro h
              rw [ByteArray.toList_eq] at h
              exact he (ByteArray.ext (Array.ext' h))
            go_wp2_with fail
            go_ret
            exact ⟨ret_bool hf.out.symm, (unhide Hc).2.1⟩
      · have hr0 : (((r : Nat) : Int) == 65533) = false := by simp; omega
        have hf : Hid (validP s (pos + wd) = validP s 0) := by rw [Hid, (unhide Hc).2.2]; simp [hr]
        go_wp2_with fail
        go_roundw
        case rel => exact ⟨pos + wd, (unhide Hc).1, (unhide Hc).2.1, hf⟩
        case measure =>
          rw [hpos, iterPos_of (unhide Hc).1]
          omega
    · have hnx : ∀ ty, (Instr.next (.pointer (some ⟨w.heap.size, 0, none⟩)) true ty).run Tryd.prog wr = _ := fun ty => Lib.run_next_end_at wr w.heap.size s pos ty hit hp
      have ht : Hid (validP s 0 = true) := by rw [Hid, ← hacc.out]; exact validP_end hp
      go_wp2_with fail
      go_ret
      exact ⟨ret_bool ht.out.symm, hbw⟩
end Go.Proofs.YtfhaoamlagnpjaaDoor

set_option linter.unusedVariables false
set_option linter.unusedSimpArgs false
namespace Go.Proofs.YtfhaoamlagnpjaaDoor
open Go.RowKit Go.Lib
/-- What Text answers. -/
def textV (o : ByteArray) (n : Int) (r : ByteArray) (es : List ByteArray) : Value :=
  if nameOk o = false then .tuple #[.string ⟨#[]⟩, .int .i64 203]
  else if n < 0 ∨ 4611686018427387904 < n then .tuple #[.string ⟨#[]⟩, .int .i64 10]
  else if r.size < 1 ∨ 32 < r.size then .tuple #[.string ⟨#[]⟩, .int .i64 72]
  else textM o n r es
theorem textV_form (o : ByteArray) (n : Int) (r : ByteArray) (es : List ByteArray) : ∃ (x : ByteArray) (z : Nat), textV o n r es = .tuple #[.string x, .int .i64 z] ∧ z < 1000 := by
  unfold textV textM
  split
  · exact ⟨_, 203, rfl, by decide⟩
  · split
    · exact ⟨_, 10, rfl, by decide⟩
    · split
      · exact ⟨_, 72, rfl, by decide⟩
      · split
        · exact ⟨_, 0, rfl, by decide⟩
        · exact ⟨_, 43, rfl, by decide⟩
set_option maxRecDepth 100000 in
set_option maxHeartbeats 1000000 in
theorem noteTx_any (o r : ByteArray) (n : Int) (v : Value) (es : List ByteArray) (w : World) (ho : o.size ≤ 1099511627776) (hrs : r.size ≤ 1099511627776) (hl : (linesL es).length ≤ 1099511627776) (hv : StrsAt w v es) (hT : Lib.Utf8Tabs 3 4 w) :
    Calls Tryd.prog 16 #[.agg #[.string o, .int .i64 n, .string r, v]] w fun e w' => e = .returned (textV o n r es) ∧ Below w.heap.size w w' := by
  have hb1 : Below w.heap.size w (w.alloc (.cells #[.string o, .int .i64 n, .string r, v] 34)) := (Below.refl _ _).alloc (Nat.le_refl _) _
  by_cases h1 : nameOk o = false
  · have hres : Hid (textV o n r es = .tuple #[.string ⟨#[]⟩, .int .i64 203]) := by unfold textV; rw [if_pos h1]; rfl
    have H1 := hide h1; clear h1 hv hT
    go_enter Tryd.func16, Tryd.ntmps16
    go_wp2_with fail
    refine (name_any _ _ (by simp only [maxLen]; omega)).mono ?_
    rintro e w1 ⟨rfl, rfl⟩
    rw [unhide H1]
    go_wp2_with fail
    go_ret2
    refine ⟨by rw [hres.out]; rfl, ?_⟩
    first | exact hb1 | exact hb1.alloc hb1.size _
  · have h1' : nameOk o = true := by simpa using h1
    by_cases h2 : n < 0 ∨ 4611686018427387904 < n
    · have hres : Hid (textV o n r es = .tuple #[.string ⟨#[]⟩, .int .i64 10]) := by unfold textV; rw [if_neg h1, if_pos h2]; rfl
      have H1 := hide h1'; clear h1 h1' hv hT
      have hd : (decide (n < 0) || decide (4611686018427387904 < n)) = true := by simpa using h2
      go_enter Tryd.func16, Tryd.ntmps16
      go_wp2_with fail
      refine (name_any _ _ (by simp only [maxLen]; omega)).mono ?_
      rintro e w1 ⟨rfl, rfl⟩
      rw [unhide H1]
      rcases h2 with h2 | h2
      · go_wp2_with fail
        go_ret2
        refine ⟨by rw [hres.out]; rfl, ?_⟩
        first | exact hb1 | exact hb1.alloc hb1.size _
      · have h3 : ¬ n < 0 := by omega
        go_wp2_with fail
        go_ret2
        refine ⟨by rw [hres.out]; rfl, ?_⟩
        first | exact hb1 | exact hb1.alloc hb1.size _
    · by_cases h3 : r.size < 1 ∨ 32 < r.size
      · have hres : Hid (textV o n r es = .tuple #[.string ⟨#[]⟩, .int .i64 72]) := by unfold textV; rw [if_neg h1, if_neg h2, if_pos h3]; rfl
        have H1 := hide h1'; clear h1 h1' hv hT
        have h4 : 0 ≤ n := by omega
        have h5 : n ≤ 4611686018427387904 := by omega
        clear h2
        go_enter Tryd.func16, Tryd.ntmps16
        go_wp2_with fail
        refine (name_any _ _ (by simp only [maxLen]; omega)).mono ?_
        rintro e w1 ⟨rfl, rfl⟩
        rw [unhide H1]
        rcases h3 with h3 | h3
        · have h6 : (r.size : Int) < 1 := by omega
          go_wp2_with fail
          go_ret2
          refine ⟨by rw [hres.out]; rfl, ?_⟩
          first | exact hb1 | exact hb1.alloc hb1.size _
        · have h6 : ¬ (r.size : Int) < 1 := by omega
          have h7 : 32 < (r.size : Int) := by omega
          go_wp2_with fail
          go_ret2
          refine ⟨by rw [hres.out]; rfl, ?_⟩
          first | exact hb1 | exact hb1.alloc hb1.size _
      · refine (text_main o r n v es w ho hl hv h1' (by omega) (by omega) (by omega) (by omega) hT).mono ?_
        rintro e w' ⟨rfl, hb⟩
        exact ⟨by unfold textV; rw [if_neg h1, if_neg h2, if_neg h3], hb⟩
end Go.Proofs.YtfhaoamlagnpjaaDoor

set_option linter.unusedVariables false
set_option linter.unusedSimpArgs false
namespace Go.Proofs.YtfhaoamlagnpjaaDoor
open Go.RowKit Go.Lib
theorem step_bytesOf {ops : Array Oper} {o : Oper} {a : Act} {K : Act → World → Prop} {Q : Exit → Act → World → Prop} {E : Prop} {w : World} (hgd : o.guard = none) (x : Operand) (ho : o.op = .convert 9 75 x)
    (s : ByteArray) (hx : a.eval x = .string s) (hs : s.size ≤ maxLen)
    (h : ∀ v' w', OwnB w' w.heap.size v' s.data.toList → Below w.heap.size w w' → v'.ownBlock = some w.heap.size → K (a.put o.dst v') w') :
    if Region.wanted o (yielded ops a.tmps) = true then Oper.wp Tryd.prog o a w K Q else E := by
  have hw : Region.wanted o (yielded ops a.tmps) = true := by simp [Region.wanted, hgd]
  rw [if_pos hw]
  obtain ⟨v', w', hr, h2, h3, h4⟩ := run_bytesOf w s hs
  unfold Oper.wp execOp
  simp only [ho, hx, hr, Sem.run_bind, Sem.run_pure, Result.andThen_ok]
  exact h v' w' h2 h3 h4
set_option maxRecDepth 100000 in
set_option maxHeartbeats 4000000 in
theorem rtext_main (o r : ByteArray) (n : Int) (v : Value) (es : List ByteArray) (w : World) (ho : o.size ≤ 1099511627776) (hl : (linesL es).length ≤ 1099511627776) (hv : StrsAt w v es) (hno : nameOk o = true) (h0 : 0 ≤ n) (h1 : n ≤ 4611686018427387904) (hr1 : 1 ≤ r.size) (hr2 : r.size ≤ 32) :
    Calls Tryd.prog 17 #[.agg #[.string o, .int .i64 n, .string r, v]] w fun e w' => e = .returned (textM o n r es) ∧ Below w.heap.size w w' := by
  have Hno := hide hno; clear hno
  obtain ⟨A, c, rfl, hel⟩ := hv
  have hel' : ∀ j (h : j < es.length), ∃ a, A = some a ∧ (a.add j).block < w.heap.size ∧ w.cell? (a.add j) = some (.string es[j]) := fun j h => by
    obtain ⟨a, e, hc⟩ := hel j h
    exact ⟨a, e, World.block_lt_of_cell? w _ hc, hc⟩
  have HEL := hide hel'; clear hel hel'
  have hnes : es.length ≤ 1099511627776 := Nat.le_trans (linesL_ge es) hl
  have Hl := hide hl; clear hl
  have hd := fun w => rdec_any n w (by omega) (by omega)
  have hb := fun w => rb64_any r w (by omega)
  have HD := hide hd; have HB := hide hb; clear hd hb
  have hds : (decS n).size ≤ 20 := by
    have := digL_length 19 n.toNat (by omega) (by omega)
    show (decL n).toArray.size ≤ 20
    unfold decL
    rw [if_pos h0, List.size_toArray]
    omega
  have hbs := b64S_size r
  have hbs' : (b64S r).size ≤ 44 := by omega
  go_enter Tryd.func17, Tryd.ntmps17
  go_wp2_with fail
  refine (rname_any _ _ (by simp only [maxLen]; omega)).mono ?_
  rintro e w1 ⟨rfl, rfl⟩
  rw [unhide Hno]
  go_wp2_with fail
  obtain ⟨D, HDe⟩ : ∃ D, Hid (decS n = D) := ⟨_, Lib.hid rfl⟩
  obtain ⟨E, HEe⟩ : ∃ E, Hid (b64S r = E) := ⟨_, Lib.hid rfl⟩
  rw [HDe.out] at HD hds
  rw [HEe.out] at HB hbs'
  have hC0 : Blk (w.alloc (.cells #[.string o, .int .i64 n, .string r, .slice A es.length c] 34)) w.heap.size 34 #[.string o, .int .i64 n, .string r, .slice A es.length c] := Blk.new w _ _
  have hw0 : Below w.heap.size w (w.alloc (.cells #[.string o, .int .i64 n, .string r, .slice A es.length c] 34)) := (Below.refl _ _).alloc (Nat.le_refl _) _
  have hsz0 : (w.alloc (.cells #[.string o, .int .i64 n, .string r, .slice A es.length c] 34)).heap.size = w.heap.size + 1 := by simp
  generalize (w.alloc (.cells #[.string o, .int .i64 n, .string r, .slice A es.length c] 34)) = w0 at *
  have k0 := hC0.cell 0
  have k1 := hC0.cell 1
  have k2 := hC0.cell 2
  simp only [List.getElem?_toArray, List.getElem?_cons_zero, List.getElem?_cons_succ] at k0 k1 k2
  have x1 : ¬ (9223372036854775807 < o.size + 1) := by omega
  have x2 : ¬ (9223372036854775807 < o.size + 1 + D.size) := by omega
  have x3 : ¬ (9223372036854775807 < o.size + 1 + D.size + 1) := by omega
  have x4 : ¬ (9223372036854775807 < o.size + 1 + D.size + 1 + E.size) := by omega
  have x5 : ¬ (9223372036854775807 < o.size + 1 + D.size + 1 + E.size + 1) := by omega
  have e10 : (⟨#[10]⟩ : ByteArray).size = 1 := rfl
  have H0 := hide (And.intro hC0 (And.intro hw0 hsz0)); clear hC0 hw0 hsz0
  have hDW : ∀ W, Calls Tryd.prog 47 #[.int .i64 n] W fun e w' => e = .returned (.string D) ∧ w' = W := fun W => (unhide HD W).mono fun e w' h => ⟨h.1, h.2.symm⟩
  have hEW : ∀ W, Calls Tryd.prog 48 #[.string r] W fun e w' => e = .returned (.string E) ∧ w' = W := fun W => (unhide HB W).mono fun e w' h => ⟨h.1, h.2.symm⟩
  have HDW := hide hDW; have HEW := hide hEW; clear hDW hEW
  go_still_tail 13, (by kernel_rfl)
  still_call (unhide HDW _)
  repeat still_step
  still_call (unhide HEW _)
  repeat still_step
  try refine wpStill_nil ?_
  change wpList _ _ _ _ _ (World.drew _)
  have HFE : Hid ((o ++ ⟨#[10]⟩ ++ D ++ ⟨#[10]⟩ ++ E ++ ⟨#[10]⟩ : ByteArray) = headB o n r) := by unfold headB; rw [HDe.out, HEe.out]; rfl
  have hfs : (headB o n r).size ≤ 2199023255552 := by
    rw [← HFE.out]
    simp only [ByteArray.size_append, e10]
    omega
  have HFS := hide hfs; clear hfs
  go_wp2_with (first | (refine wpList_bytesOf _ rfl (.tmp 44) rfl _ rfl (by simp only [maxLen, ByteArray.size_append, e10]; omega) ?_; intro v1 w1 hO1 hb1 hv1; have H1 := hide (And.intro hO1 (And.intro hb1 hv1)); clear hO1 hb1 hv1))
  have hC1 : Blk w1 w.heap.size 34 #[.string o, .int .i64 n, .string r, .slice A es.length c] := (unhide H0).1.drew.below (unhide H1).2.1 (unhide H0).1.lt
  have hw1 : Below w.heap.size w w1 := (unhide H0).2.1.drew.trans ((unhide H1).2.1.mono (by have h := (unhide H0).2.2; show w.heap.size ≤ w0.heap.size; omega))
  have hO1 : OwnB w1 (w.heap.size + 1) v1 ((headB o n r).data.toList ++ linesL (es.take 0)) := by
    have h := (unhide H1).1
    rw [HFE.out] at h
    rw [show linesL (es.take 0) = [] from rfl, List.append_nil]
    exact h.mono (by have h := (unhide H0).2.2; show w.heap.size + 1 ≤ w0.heap.size; omega)
  have H2 := hide (And.intro hC1 (And.intro hw1 hO1)); clear hC1 hw1 hO1 H1
  rename_i a1 a2 a3 aK aQ
  clear a1 a2 a3 x1 x2 x3 x4 x5 h0 h1 hr1 hr2 k0 k1 k2 hds hbs hbs' H0 e10
  go_loopw [5, 6] (fun b i wr => ∃ k : Nat, k ≤ es.length ∧ i = .int .i64 k ∧ Hid (∀ j (h : j < es.length), j < k → lineOk es[j] = true) ∧ Blk wr w.heap.size 34 #[.string o, .int .i64 n, .string r, .slice A es.length c] ∧ OwnB wr (w.heap.size + 1) b ((headB o n r).data.toList ++ linesL (es.take k)) ∧ Below w.heap.size w wr) (fun _ i _ => es.length - (RowKit.intOf i).toNat)
  case atStart => exact ⟨0, by omega, rfl, Lib.hid (fun j _ h => by omega), (unhide H2).1, (unhide H2).2.2, (unhide H2).2.1⟩
  case round =>
    clear H2
    obtain ⟨k, hk, rfl, hok, hC, hO, hb⟩ := hrel
    have k3 := hC.cell 3
    simp only [List.getElem?_toArray, List.getElem?_cons_zero, List.getElem?_cons_succ] at k3
    have HX := hide (And.intro hok (And.intro hC (And.intro hO hb))); clear hok hC hO hb
    rcases Nat.lt_or_ge k es.length with hlt | hge
    · obtain ⟨a, rfl, hab, hac⟩ := unhide HEL k hlt
      have hcx : wr.cell? (a.add k) = some (.string es[k]) := ((unhide HX).2.2.2.cell hab).trans hac
      have hxs : es[k].size ≤ 1099511627776 := by have := linesL_at es k hlt; have := unhide Hl; omega
      have hno : Hid (∀ x, es[k] = x → lineOk x = false → textM o n r es = .tuple #[.string ⟨#[]⟩, .int .i64 43]) := fun x e h => textM_no hlt (by rw [e]; exact h)
      generalize hxe : es[k] = x at hcx hxs
      have HXE := Lib.hid hxe
      have hab' := Lib.hid (And.intro hab hac)
      clear hab hac hxe
      have hpl := rplain_any false x wr (by simp only [maxLen]; omega)
      have hwh := rwhole_any x wr (by omega)
      have HPW := hide (And.intro hpl hwh); clear hpl hwh
      have hlo : Hid (lineOk x = (decide (x.size ≠ 0) && (plainB false x 0 && validP x 0))) := by unfold lineOk; rw [wholeP_eq]; rfl
      go_wp2_with fail
      refine (unhide HPW).1.mono ?_
      rintro e w4 ⟨rfl, rfl⟩
      go_wp2_with fail
      refine (unhide HPW).2.mono ?_
      rintro e w5 ⟨rfl, hb5⟩
      have hb5' : Below w.heap.size w w5 := (unhide HX).2.2.2.trans (hb5.mono (unhide HX).2.2.2.size)
      have hC5 := (unhide HX).2.1.below hb5 (unhide HX).2.1.lt
      have hO5 := (unhide HX).2.2.1.below hb5
      have k3' := hC5.cell 3
      simp only [List.getElem?_toArray, List.getElem?_cons_zero, List.getElem?_cons_succ] at k3'
      have hcx' : w5.cell? (a.add k) = some (.string x) := by
        have h := (hb5'.cell hab'.out.1).trans hab'.out.2
        rw [HXE.out] at h
        exact h
      have H5 := hide (And.intro hb5' (And.intro hC5 hO5)); clear hb5' hC5 hO5 hb5 HPW k3 hcx
      generalize plainB false x 0 = p at hlo ⊢
      generalize validP x 0 = u at hlo ⊢
      by_cases hx0 : x.toList = []
      · have hres : Hid (textM o n r es = .tuple #[.string ⟨#[]⟩, .int .i64 43]) := hno.out x HXE.out (by
          rw [ByteArray.toList_eq] at hx0
          have : x.size = 0 := by have h := congrArg List.length hx0; rw [Array.length_toList] at h; exact h
          simp [lineOk, this])
        have hie : x.toList.isEmpty = true := by simpa using hx0
        go_wp2_with fail
        go_ret2
        exact ⟨by rw [hres.out]; rfl, (unhide H5).1⟩
      · have hie : x.toList.isEmpty = false := by simpa using hx0
        have hsz : Hid (x.size ≠ 0) := fun h => hx0 (by
          rw [ByteArray.toList_eq]
          exact List.eq_nil_of_length_eq_zero (by rw [Array.length_toList]; exact h))
        cases p with
        | false =>
          have hres : Hid (textM o n r es = .tuple #[.string ⟨#[]⟩, .int .i64 43]) := hno.out x HXE.out (by rw [hlo.out]; simp)
          go_wp2_with fail
          go_ret2
          exact ⟨by rw [hres.out]; rfl, (unhide H5).1⟩
        | true =>
          cases u with
          | false =>
            have hres : Hid (textM o n r es = .tuple #[.string ⟨#[]⟩, .int .i64 43]) := hno.out x HXE.out (by rw [hlo.out]; simp)
            go_wp2_with fail
            go_ret2
            exact ⟨by rw [hres.out]; rfl, (unhide H5).1⟩
          | true =>
            have hyes : Hid (lineOk x = true) := by rw [Hid, hlo.out]; simp [hsz.out]
            have hlen : ((headB o n r).data.toList ++ linesL (es.take k)).length + x.size + 1 ≤ 140737488355328 := by
              have h1 := linesL_take_le es k
              have h2 := unhide Hl
              have h3 := unhide HFS
              rw [List.length_append, Array.length_toList]
              have : (headB o n r).data.size = (headB o n r).size := rfl
              omega
            have Hlen := hide hlen; clear hlen
            have hbs : w.heap.size + 1 ≤ w5.heap.size := (unhide H5).2.1.lt
            go_wp2_with (first | (at_builtin; refine wpList_app_str _ rfl (.tmp 79) (.tmp 84) rfl (unhide H5).2.2 rfl x rfl (by have := unhide Hlen; omega) hbs ?_; intro v6 w6 hO6 hg6 hat6; have H6 := hide (And.intro hO6 (And.intro hg6 hat6)); clear hO6 hg6 hat6) | (at_builtin; refine wpList_app1 w6 rfl (.tmp 86) (.tmp 87) rfl (unhide H6).1 rfl rfl (by omega) (by omega) (by have := unhide Hlen; rw [List.length_append, Array.length_toList]; exact this) (Nat.le_trans hbs (unhide H6).2.1.size) ?_; intro v7 w7 hO7 hg7 hat7; have H7 := hide (And.intro hO7 (And.intro hg7 hat7)); clear hO7 hg7 hat7))
            have n5 : some w.heap.size ≠ u5.ownBlock := fun e => by have := ((unhide H5).2.2.lt _ e.symm).1; omega
            have n6 : some w.heap.size ≠ v6.ownBlock := fun e => by have := ((unhide H6).1.lt _ e.symm).1; omega
            go_roundw
            case rel =>
              refine ⟨k + 1, by omega, by go_num, Lib.hid (fun j hj hjk => ?_), (((unhide H5).2.1.grown (unhide H6).2.1 n5).alloc _).grown (unhide H7).2.1 n6, ?_, ?_⟩
              · rcases Nat.lt_succ_iff_lt_or_eq.1 hjk with h' | rfl
                · exact (unhide HX).1.out j hj h'
                · rw [HXE.out]; exact hyes.out
              · rw [linesL_take_succ es k hlt, HXE.out, ← List.append_assoc, ← List.append_assoc]
                exact (unhide H7).1
              · have h6 := (unhide H5).1.grown (unhide H6).2.1 (unhide H5).1.size (fun j hj => by have := ((unhide H5).2.2.lt _ hj).1; omega)
                exact (h6.alloc h6.size _).grown (unhide H7).2.1 (by have := h6.size; simp; omega) (fun j hj => by have := ((unhide H6).1.lt _ hj).1; omega)
            case measure => simp [RowKit.intOf]; omega
    · have hke : k = es.length := by omega
      have hO := (unhide HX).2.2.1
      rw [List.take_of_length_le (by omega)] at hO
      have hres : Hid (textM o n r es = .tuple #[.string ⟨((headB o n r).data.toList ++ linesL es).toArray⟩, .int .i64 0]) := textM_yes (fun j h => (unhide HX).1.out j h (by omega))
      have hcv := conv_own hO
      have Hk := Lib.hid hke; clear hO hke
      go_wp2_with fail
      go_ret2
      exact ⟨by rw [hres.out]; rfl, (unhide HX).2.2.2⟩
end Go.Proofs.YtfhaoamlagnpjaaDoor

set_option linter.unusedVariables false
set_option linter.unusedSimpArgs false
namespace Go.Proofs.YtfhaoamlagnpjaaDoor
open Go.RowKit Go.Lib
set_option maxRecDepth 100000 in
set_option maxHeartbeats 2000000 in
theorem rwritten_any (t : ByteArray) (v : Value) (xs : List SigR) (base : Nat) (w : World) (ht : t.size ≤ 1099511627776) (hx : (sigsL xs).length ≤ 1099511627776) (hxb : ∀ x ∈ xs, x.id.size ≤ 1099511627776 ∧ x.mc.size ≤ 1099511627776) (hn : xs.length ≤ 1099511627776) (hO : OwnG w base v xs) :
    Calls Tryd.prog 65 #[.string t, v] w fun e w' => e = .returned (.string (writB t xs)) ∧ Below w.heap.size w w' := by
  obtain ⟨A, c, rfl⟩ := hO.slice
  have hcell : ∀ j (hj : j < xs.length), ∃ g, A = some ⟨g, 0, none⟩ ∧ g < w.heap.size ∧ w.cell? ⟨g, j * 3, none⟩ = some (.string xs[j].nm) ∧ w.cell? ⟨g, j * 3 + 1, none⟩ = some (.string xs[j].id) ∧ w.cell? ⟨g, j * 3 + 2, none⟩ = some (.string xs[j].mc) := fun j hj => by
    rcases hO.form with ⟨_, he⟩ | ⟨g, cap, hv, h1, h2, h3⟩
    · rw [he] at hj; simp at hj
    · injection hv with e1 e2 e3
      subst e1 e3
      exact ⟨g, rfl, h2, hO.cell j 0 hj (by omega), hO.cell j 1 hj (by omega), hO.cell j 2 hj (by omega)⟩
  have HC := hide hcell; have HX := hide hx; have HXB := hide hxb; clear hcell hO hx hxb
  have x1 : ¬ (9223372036854775807 < t.size + 1) := by omega
  obtain ⟨v1, w1, hcv, hO1, hb1, hv1⟩ := run_bytesOf w (t ++ ⟨#[10]⟩) (by rw [ByteArray.size_append, show (⟨#[10]⟩ : ByteArray).size = 1 from rfl]; simp only [maxLen]; omega)
  have hF : (t ++ ⟨#[10]⟩ : ByteArray).data.toList = writL t (xs.take 0) := by
    unfold writL sigsL
    rw [ByteArray.data_append, Array.toList_append]
    simp
  rw [hF] at hO1
  have H1 := hide (And.intro hO1 hb1); clear hO1 hb1 hF
  go_enter Tryd.func65, Tryd.ntmps65
  go_wp2_with fail
  clear hcv
  go_loopw [5, 6] (fun v i wr => ∃ k : Nat, k ≤ xs.length ∧ i = .int .i64 k ∧ OwnB wr w.heap.size v (writL t (xs.take k)) ∧ Below w.heap.size w wr) (fun _ i _ => xs.length - (RowKit.intOf i).toNat)
  case atStart => exact ⟨0, by omega, rfl, (unhide H1).1, (unhide H1).2⟩
  case round =>
    clear H1
    obtain ⟨k, hk, rfl, hO, hb⟩ := hrel
    rcases Nat.lt_or_ge k xs.length with hlt | hge
    · obtain ⟨g, rfl, hg, c0, c1, c2⟩ := unhide HC k hlt
      have c0' := (hb.cell (p := ⟨g, k * 3, none⟩) hg).trans c0
      have c1' := (hb.cell (p := ⟨g, k * 3 + 1, none⟩) hg).trans c1
      have c2' := (hb.cell (p := ⟨g, k * 3 + 2, none⟩) hg).trans c2
      have hk2 : (k : Int) < (xs.length : Int) := by omega
      have hsz := sigsL_at xs k hlt
      have hsl := sigLine_size xs[k]
      have hxk := unhide HXB _ (List.getElem_mem hlt)
      have hnx : Hid (writL t (xs.take (k + 1)) = writL t (xs.take k) ++ (sigLine xs[k]).data.toList) := by
        unfold writL
        rw [Hid, sigsL_take_succ xs k hlt, ← List.append_assoc]
      have hwl : Hid ((writL t (xs.take k)).length ≤ t.size + 1 + (sigsL xs).length) := by
        have := sigsL_take_le xs k
        unfold writL
        rw [Hid, List.length_append, List.length_append, Array.length_toList]
        show t.size + 1 + _ ≤ _
        omega
      have HX' := unhide HX
      have hln := fun W => rline_any xs[k] W (by omega) (by omega) (by omega)
      unfold sigV at hln
      generalize hgx : xs[k] = x at *
      obtain ⟨L, hL⟩ : ∃ L, Hid (sigLine x = L) := ⟨_, Lib.hid rfl⟩
      rw [hL.out] at hln hnx hsz
      have hll : (writL t (xs.take k)).length + L.size ≤ 140737488355328 := by
        have := hwl.out
        omega
      have HLN := hide hln; have HXX := hide (And.intro hO hb); clear hln hO hb c0 c1 c2 hsz hsl hxk HX'
      go_wp2_with fail
      refine (unhide HLN _).mono ?_
      rintro e w2 ⟨rfl, hb2⟩
      have hO2 := (unhide HXX).1.below hb2
      have hb2' := (unhide HXX).2.trans (hb2.mono (unhide HXX).2.size)
      have H2 := hide (And.intro hO2 hb2'); clear hO2 hb2' hb2 c0' c1' c2'
      go_wp2_with (first | (at_builtin; refine wpList_app_str w2 rfl _ _ rfl (unhide H2).1 rfl L rfl hll (unhide H2).2.size ?_; intro v3 w3 hO3 hg3 hat3; have H3 := hide (And.intro hO3 (And.intro hg3 hat3)); clear hO3 hg3 hat3))
      go_roundw
      case rel =>
        refine ⟨k + 1, by omega, by go_num, ?_, (unhide H2).2.grown (unhide H3).2.1 (unhide H2).2.size (fun q hq => ((unhide H2).1.lt _ hq).1)⟩
        rw [hnx.out]
        exact (unhide H3).1
      case measure => simp [RowKit.intOf]; omega
    · have hk2 : ¬ (k : Int) < (xs.length : Int) := by omega
      rw [List.take_of_length_le hge] at hO
      have hcv := conv_own hO
      have H2 := hide hb; clear hO hb
      go_wp2_with fail
      go_ret
      exact ⟨rfl, unhide H2⟩
end Go.Proofs.YtfhaoamlagnpjaaDoor

set_option linter.unusedVariables false
set_option linter.unusedSimpArgs false
namespace Go.Proofs.YtfhaoamlagnpjaaDoor
open Go.RowKit Go.Lib
/-- Can a note have this text? -/
def goesV (s : ByteArray) : Bool := decide (s.data.toList.getLast? = some 10) && wholeP true s 0
theorem hasSuffix_nl (l : List UInt8) : Lib.hasSuffix l [10] = decide (l.getLast? = some 10) := by
  rw [Bool.eq_iff_iff, decide_eq_true_eq, List.getLast?_eq_some_iff]
  unfold Lib.hasSuffix
  rw [List.isSuffixOf_iff_suffix]
  constructor
  · rintro ⟨t, ht⟩
    exact ⟨t, ht.symm⟩
  · rintro ⟨t, ht⟩
    exact ⟨t, ht.symm⟩
set_option maxRecDepth 100000 in
theorem goes_any (s : ByteArray) (w : World) (hs : s.size ≤ 1099511627776) (hT : Lib.Utf8Tabs 3 4 w) :
    Calls Tryd.prog 58 #[.string s] w fun e w' => e = .returned (.bool (goesV s)) ∧ Below w.heap.size w w' := by
  have hsu := Tryd.strings_HasSuffix s ⟨#[10]⟩ w (by omega)
  have hwh := whole_any true s w (by simp only [maxLen]; omega) hT
  have HSU := hide hsu; have HWH := hide hwh; clear hsu hwh hT
  by_cases h : s.data.toList.getLast? = some 10
  · have hv : Hid (goesV s = wholeP true s 0) := by unfold goesV; rw [Hid, decide_eq_true h, Bool.true_and]
    have hx : Hid (Lib.hasSuffix s.data.toList [10] = true) := by rw [Hid, hasSuffix_nl, decide_eq_true h]
    clear h
    go_enter Tryd.func58, Tryd.ntmps58
    go_wp2_with fail
    refine (unhide HSU).mono ?_
    rintro e w1 ⟨rfl, rfl⟩
    rw [hx.out]
    go_wp2_with fail
    refine (unhide HWH).mono ?_
    rintro e w2 ⟨rfl, hb⟩
    go_wp2_with fail
    go_ret
    exact ⟨by rw [hv.out]; rfl, hb⟩
  · have hv : Hid (goesV s = false) := by unfold goesV; rw [Hid, decide_eq_false h, Bool.false_and]
    have hx : Hid (Lib.hasSuffix s.data.toList [10] = false) := by rw [Hid, hasSuffix_nl, decide_eq_false h]
    clear h
    go_enter Tryd.func58, Tryd.ntmps58
    go_wp2_with fail
    refine (unhide HSU).mono ?_
    rintro e w1 ⟨rfl, rfl⟩
    rw [hx.out]
    go_wp2_with fail
    go_ret
    exact ⟨by rw [hv.out]; rfl, Below.refl _ _⟩
set_option maxRecDepth 100000 in
theorem rgoes_any (s : ByteArray) (w : World) (hs : s.size ≤ 1099511627776) :
    Calls Tryd.prog 62 #[.string s] w fun e w' => e = .returned (.bool (goesV s)) ∧ Below w.heap.size w w' := by
  have hll : s.data.toList.length = s.size := Array.length_toList
  have hpl := rplain_any true s w (by simp only [maxLen]; omega)
  have hwh := fun W => rwhole_any s W (by omega)
  have HPL := hide hpl; have HWH := hide hwh; clear hpl hwh
  rcases Nat.eq_zero_or_pos s.size with h0 | h0
  · have h00 : ((s.size : Int) == 0) = true := by rw [h0]; rfl
    have hv : Hid (goesV s = false) := by
      have : s.data.toList = [] := List.eq_nil_of_length_eq_zero (by omega)
      unfold goesV; rw [Hid, this]; rfl
    go_enter Tryd.func62, Tryd.ntmps62
    go_wp2_with fail
    go_ret
    exact ⟨by rw [hv.out]; rfl, Below.refl _ _⟩
  · have h00 : ((s.size : Int) == 0) = false := by rw [beq_eq_false_iff_ne]; omega
    have hlt : s.size - 1 < s.size := by omega
    have hix : (s[s.size - 1]'hlt).toNat < 256 := s[s.size - 1].toNat_lt
    have hm1 : (s.size : Int) - 1 = ((s.size - 1 : Nat) : Int) := by omega
    have hgl : Hid (s.data.toList.getLast? = some s[s.size - 1]) := by
      rw [Hid, List.getLast?_eq_getElem?, hll, List.getElem?_eq_getElem (by omega)]
      rfl
    by_cases hc : s[s.size - 1] = 10
    · have hcc : ((s[s.size - 1].toNat : Int) == 10) = true := by rw [hc]; rfl
      have hv : Hid (goesV s = (plainB true s 0 && validP s 0)) := by
        unfold goesV; rw [Hid, hgl.out, hc, decide_eq_true rfl, Bool.true_and, wholeP_eq]
      go_enter Tryd.func62, Tryd.ntmps62
      go_wp2_with fail
      refine (unhide HPL).mono ?_
      rintro e w1 ⟨rfl, rfl⟩
      go_wp2_with fail
      refine (unhide HWH _).mono ?_
      rintro e w2 ⟨rfl, hb⟩
      cases hp : plainB true s 0 with
      | false =>
        rw [hp] at hv
        go_wp2_with fail
        go_ret
        exact ⟨by rw [hv.out]; rfl, hb⟩
      | true =>
        rw [hp] at hv
        go_wp2_with fail
        go_ret
        exact ⟨by rw [hv.out]; rfl, hb⟩
    · have hcc : ((s[s.size - 1].toNat : Int) == 10) = false := by
        rw [beq_eq_false_iff_ne]
        exact fun e => hc (UInt8.toNat_inj.1 (by rw [show (10 : UInt8).toNat = 10 from rfl]; omega))
      have hv : Hid (goesV s = false) := by
        unfold goesV; rw [Hid, hgl.out, decide_eq_false (by simpa using hc), Bool.false_and]
      go_enter Tryd.func62, Tryd.ntmps62
      go_wp2_with fail
      go_ret
      exact ⟨by rw [hv.out]; rfl, Below.refl _ _⟩
end Go.Proofs.YtfhaoamlagnpjaaDoor

set_option linter.unusedVariables false
set_option linter.unusedSimpArgs false
namespace Go.Proofs.YtfhaoamlagnpjaaDoor
open Go.RowKit Go.Lib
/-- A key. -/
structure KeyR where
  nm : ByteArray
  sc : ByteArray
def keyV (k : KeyR) : Value := .agg #[.string k.nm, .string k.sc]
/-- A slice of keys, to be read. -/
def KeysAt (w : World) (v : Value) (ks : List KeyR) : Prop :=
  ∃ A c, v = .slice A ks.length c ∧ ∀ j (h : j < ks.length), ∃ a, A = some a ∧ w.cell? (a.add (j * 2)) = some (.string ks[j].nm) ∧ w.cell? (a.add (j * 2 + 1)) = some (.string ks[j].sc)
theorem KeysAt.keep {w w' : World} {v : Value} {ks : List KeyR} (h : KeysAt w v ks) (hk : ∀ p : Addr, p.block < w.heap.size → w'.cell? p = w.cell? p) : KeysAt w' v ks := by
  obtain ⟨A, c, rfl, hc⟩ := h
  refine ⟨A, c, rfl, fun j hj => ?_⟩
  obtain ⟨a, rfl, h1, h2⟩ := hc j hj
  exact ⟨a, rfl, (hk _ (World.block_lt_of_cell? w _ h1)).trans h1, (hk _ (World.block_lt_of_cell? w _ h2)).trans h2⟩
theorem KeysAt.below {w w' : World} {v : Value} {ks : List KeyR} (h : KeysAt w v ks) (hb : Below w.heap.size w w') : KeysAt w' v ks := h.keep fun p hp => hb.cell hp
theorem KeysAt.alloc {w : World} {v : Value} {ks : List KeyR} (h : KeysAt w v ks) (o : Obj) : KeysAt (w.alloc o) v ks := h.keep fun p hp => World.cell?_alloc_lt w o p hp
theorem KeysAt.drew {w : World} {v : Value} {ks : List KeyR} (h : KeysAt w v ks) : KeysAt w.drew v ks := h
def keySig (t : ByteArray) (k : KeyR) : SigR := sigOf k.nm k.sc t
/-- The keys one after the other. -/
def signR (t : ByteArray) : List KeyR → List SigR → Value
  | [], acc => writA t acc
  | k :: r, acc => if nameOk k.nm = false then .tuple #[.string ⟨#[]⟩, .int .i64 203] else if amongV acc (keySig t k) = true then .tuple #[.string ⟨#[]⟩, .int .i64 200] else signR t r (acc ++ [keySig t k])
/-- What Sign answers. -/
def signA (t : ByteArray) (ks : List KeyR) : Value :=
  if goesV t = false then .tuple #[.string ⟨#[]⟩, .int .i64 200]
  else if ks.length = 0 then .tuple #[.string ⟨#[]⟩, .int .i64 82]
  else if 16 < ks.length then .tuple #[.string ⟨#[]⟩, .int .i64 83]
  else signR t ks []
theorem writA_form (t : ByteArray) (xs : List SigR) : ∃ (x : ByteArray) (z : Nat), writA t xs = .tuple #[.string x, .int .i64 z] ∧ z < 1000 := by
  unfold writA
  split
  · exact ⟨_, 121, rfl, by decide⟩
  · exact ⟨_, 0, rfl, by decide⟩
theorem signR_form (t : ByteArray) : ∀ (ks : List KeyR) (acc : List SigR), ∃ (x : ByteArray) (z : Nat), signR t ks acc = .tuple #[.string x, .int .i64 z] ∧ z < 1000
  | [], acc => writA_form t acc
  | k :: r, acc => by
    unfold signR
    split
    · exact ⟨_, 203, rfl, by decide⟩
    · split
      · exact ⟨_, 200, rfl, by decide⟩
      · exact signR_form t r _
theorem signA_form (t : ByteArray) (ks : List KeyR) : ∃ (x : ByteArray) (z : Nat), signA t ks = .tuple #[.string x, .int .i64 z] ∧ z < 1000 := by
  unfold signA
  split
  · exact ⟨_, 200, rfl, by decide⟩
  · split
    · exact ⟨_, 82, rfl, by decide⟩
    · split
      · exact ⟨_, 83, rfl, by decide⟩
      · exact signR_form _ _ _
/-- A signature in its bounds. -/
def SigOk (x : SigR) : Prop := x.nm.size ≤ 64 ∧ x.id.size = 4 ∧ x.mc.size = 32
theorem nameOk_size {s : ByteArray} (h : nameOk s = true) : s.size ≤ 64 := by
  unfold nameOk at h
  simp at h
  exact h.1.2
theorem keySig_ok {t : ByteArray} {k : KeyR} (h : nameOk k.nm = true) : SigOk (keySig t k) := ⟨nameOk_size h, sigOf_id _ _ _, sigOf_mc _ _ _⟩
theorem sigsL_ok : ∀ xs : List SigR, (∀ x ∈ xs, SigOk x) → (sigsL xs).length ≤ xs.length * 118
  | [], _ => by simp [sigsL]
  | x :: r, h => by
    have ih := sigsL_ok r (fun y hy => h y (List.mem_cons_of_mem _ hy))
    obtain ⟨h1, h2, h3⟩ := h x (List.mem_cons_self ..)
    have hs := sigLine_size x
    rw [b64S_size, ByteArray.size_append, h2, h3] at hs
    have hl : (sigLine x).data.toList.length = (sigLine x).size := Array.length_toList
    unfold sigsL at ih ⊢
    rw [List.flatMap_cons, List.length_append, hl, List.length_cons]
    omega
/-- One key more. -/
theorem signR_step {t : ByteArray} {ks : List KeyR} {acc : List SigR} {k : Nat} (hk : k < ks.length) : signR t (ks.drop k) acc = if nameOk ks[k].nm = false then .tuple #[.string ⟨#[]⟩, .int .i64 203] else if amongV acc (keySig t ks[k]) = true then .tuple #[.string ⟨#[]⟩, .int .i64 200] else signR t (ks.drop (k + 1)) (acc ++ [keySig t ks[k]]) := by
  rw [List.drop_eq_getElem_cons hk]
  rfl
end Go.Proofs.YtfhaoamlagnpjaaDoor

set_option linter.unusedVariables false
set_option linter.unusedSimpArgs false
namespace Go.Proofs.YtfhaoamlagnpjaaDoor
open Go.RowKit Go.Lib
/-- What both sides answer for a key: its four bytes, or the refusal. -/
def idV (n s : ByteArray) : Value := if nameOk n = true then .tuple #[.string ⟨(keyIDL n.data.toList s.data.toList).toArray⟩, .int .i64 0] else .tuple #[.string ⟨#[]⟩, .int .i64 203]
set_option maxRecDepth 100000 in
set_option maxHeartbeats 400000 in
theorem noteID_any (n s : ByteArray) (w : World) (hn : n.size ≤ 281474976710656) (hs : s.size ≤ 562949953421312) (htab : TabOk w) (hbg : BeginOk w) :
    Calls Tryd.prog 14 #[.agg #[.string n, .string s]] w fun e w' => e = .returned (idV n s) ∧ Below w.heap.size w w' := by
  by_cases hno : nameOk n = true
  · have Hid1 : Hid (idV n s = .tuple #[.string ⟨(keyIDL n.data.toList s.data.toList).toArray⟩, .int .i64 0]) := by unfold idV; rw [if_pos hno]; rfl
    have Hno := hide hno; clear hno
    have hk := fun (o : Obj) => keyID_any n s (w.alloc o) hn hs (TabOk.below (B := w.heap.size) htab ((Below.refl _ _).alloc (Nat.le_refl _) o) htab.lt) (hbg.below (B := w.heap.size) ((Below.refl _ _).alloc (Nat.le_refl _) o) hbg.lt)
    have Hk := hide hk
    clear hk htab hbg
    go_enter Tryd.func14, Tryd.ntmps14
    go_wp2_with fail
    refine (name_any _ _ (by simp only [maxLen]; omega)).mono ?_
    rintro e w1 ⟨rfl, rfl⟩
    rw [unhide Hno]
    go_wp2_with fail
    refine (unhide Hk _).mono ?_
    rintro e w1 ⟨rfl, hb1⟩
    go_wp2_with fail
    go_ret2
    exact ⟨by rw [Hid1.out]; rfl, ((Below.refl _ _).alloc (Nat.le_refl _) _).trans (hb1.mono (by simp))⟩
  · have hno' : nameOk n = false := by simpa using hno
    refine (noteID_no n s w (by simp only [maxLen]; omega) hno').mono ?_
    rintro e w' ⟨rfl, hb⟩
    exact ⟨by simp [idV, hno'], hb⟩
set_option maxRecDepth 100000 in
set_option maxHeartbeats 400000 in
theorem rID_any (n s : ByteArray) (w : World) (hn : n.size ≤ 17592186044416) (hs : s.size ≤ 35184372088832) (htab : TabOkR w) (hf : FirstOk w) :
    Calls Tryd.prog 15 #[.agg #[.string n, .string s]] w fun e w' => e = .returned (idV n s) ∧ Below w.heap.size w w' := by
  by_cases hno : nameOk n = true
  · have Hid1 : Hid (idV n s = .tuple #[.string ⟨(keyIDL n.data.toList s.data.toList).toArray⟩, .int .i64 0]) := by unfold idV; rw [if_pos hno]; rfl
    have Hno := hide hno; clear hno
    have hk := fun (o : Obj) => rkeyID_any n s (w.alloc o) hn hs (TabOkR.below (B := w.heap.size) htab ((Below.refl _ _).alloc (Nat.le_refl _) o) htab.lt) (FirstOk.below (B := w.heap.size) hf ((Below.refl _ _).alloc (Nat.le_refl _) o) hf.lt)
    have Hk := hide hk
    clear hk htab hf
    go_enter Tryd.func15, Tryd.ntmps15
    go_wp2_with fail
    refine (rname_any _ _ (by simp only [maxLen]; omega)).mono ?_
    rintro e w1 ⟨rfl, rfl⟩
    rw [unhide Hno]
    go_wp2_with fail
    refine (unhide Hk _).mono ?_
    rintro e w1 ⟨rfl, hb1⟩
    go_wp2_with fail
    go_ret2
    exact ⟨by rw [Hid1.out]; rfl, ((Below.refl _ _).alloc (Nat.le_refl _) _).trans (hb1.mono (by simp))⟩
  · have hno' : nameOk n = false := by simpa using hno
    have Hid1 : Hid (idV n s = .tuple #[.string ⟨#[]⟩, .int .i64 203]) := by unfold idV; rw [if_neg hno]; rfl
    have Hno := hide hno'; clear hno hno' htab hf
    go_enter Tryd.func15, Tryd.ntmps15
    go_wp2_with fail
    refine (rname_any _ _ (by simp only [maxLen]; omega)).mono ?_
    rintro e w1 ⟨rfl, rfl⟩
    rw [unhide Hno]
    go_wp2_with fail
    go_ret2
    exact ⟨by rw [Hid1.out]; rfl, (Below.refl _ _).alloc (Nat.le_refl _) _⟩
end Go.Proofs.YtfhaoamlagnpjaaDoor

set_option linter.unusedVariables false
set_option linter.unusedSimpArgs false
namespace Go.Proofs.YtfhaoamlagnpjaaDoor
open Go.RowKit Go.Lib
/-- The place of a sign, counted from 1; 0: it is none. -/
def tabv (c : UInt8) : Nat :=
  let n := c.toNat
  if 65 ≤ n ∧ n ≤ 90 then n - 64 else if 97 ≤ n ∧ n ≤ 122 then n - 70 else if 48 ≤ n ∧ n ≤ 57 then n + 5 else if n = 43 then 63 else if n = 47 then 64 else 0
theorem tabv_le (c : UInt8) : tabv c ≤ 64 := by
  simp only [tabv]
  repeat' split
  all_goals omega
theorem sgn_tab_all : ∀ v : Fin 64, tabv (sgn v.val) = v.val + 1 ∧ sgn v.val ≠ 61 := by decide
theorem tab_sgn {v : Nat} (h : v < 64) : tabv (sgn v) = v + 1 := (sgn_tab_all ⟨v, h⟩).1
theorem sgn_ne {v : Nat} (h : v < 64) : sgn v ≠ 61 := (sgn_tab_all ⟨v, h⟩).2
/-- One digit of six bits more. -/
def digStep (st : Nat × Nat × List UInt8) (d : Nat) : Nat × Nat × List UInt8 :=
  if 2 ≤ st.2.1 then ((st.1 * 64 + d) % 2 ^ (st.2.1 - 2), st.2.1 - 2, st.2.2 ++ [((st.1 * 64 + d) / 2 ^ (st.2.1 - 2)).toUInt8]) else (st.1 * 64 + d, st.2.1 + 6, st.2.2)
def digRun (st : Nat × Nat × List UInt8) (l : List UInt8) : Nat × Nat × List UInt8 := l.foldl (fun st c => digStep st (tabv c - 1)) st
theorem digRun_cons (st : Nat × Nat × List UInt8) (c : UInt8) (l : List UInt8) : digRun st (c :: l) = digRun (digStep st (tabv c - 1)) l := rfl
/-- The signs alone. -/
def bareL : List UInt8 → List UInt8
  | [] => []
  | [a] => [sgn (a.toNat / 4), sgn (a.toNat % 4 * 16)]
  | [a, b] => [sgn (a.toNat / 4), sgn (a.toNat % 4 * 16 + b.toNat / 16), sgn (b.toNat % 16 * 4)]
  | a :: b :: c :: r => [sgn (a.toNat / 4), sgn (a.toNat % 4 * 16 + b.toNat / 16), sgn (b.toNat % 16 * 4 + c.toNat / 64), sgn (c.toNat % 64)] ++ bareL r
def padN (n : Nat) : Nat := (3 - n % 3) % 3
theorem padN_le (n : Nat) : padN n ≤ 2 := by unfold padN; omega
theorem four_eq (l : List UInt8) : four l = [put4 (val3 l) (min 3 l.length) 0, put4 (val3 l) (min 3 l.length) 1, put4 (val3 l) (min 3 l.length) 2, put4 (val3 l) (min 3 l.length) 3] := rfl
theorem b64L_bare : ∀ l : List UInt8, b64L l = bareL l ++ List.replicate (padN l.length) 61
  | [] => by rw [b64L_nil]; rfl
  | [a] => by
    have ha := a.toNat_lt
    rw [b64L_cons (by simp), four_eq]
    simp only [val3, put4, bareL, padN, List.drop, b64L_nil, List.length_cons, List.length_nil, List.getD_cons_zero, List.getD_cons_succ, List.getD_nil]
    simp only [List.append_nil]
    show [_, _, _, _] = [_, _, _, _]
    simp
    constructor
    · congr 1; omega
    · congr 1; omega
  | [a, b] => by
    have ha := a.toNat_lt
    have hb := b.toNat_lt
    rw [b64L_cons (by simp), four_eq]
    simp only [val3, put4, bareL, padN, List.drop, b64L_nil, List.length_cons, List.length_nil, List.getD_cons_zero, List.getD_cons_succ, List.getD_nil]
    simp only [List.append_nil]
    show [_, _, _, _] = [_, _, _, _]
    simp
    refine ⟨?_, ?_, ?_⟩
    · congr 1; omega
    · congr 1; omega
    · congr 1; omega
  | a :: b :: c :: r => by
    have ha := a.toNat_lt
    have hb := b.toNat_lt
    have hc := c.toNat_lt
    have e : padN (r.length + 1 + 1 + 1) = padN r.length := by unfold padN; omega
    rw [b64L_cons (by simp), four_eq, List.drop_succ_cons, List.drop_succ_cons, List.drop_succ_cons, List.drop_zero, b64L_bare r, bareL]
    have hm : min 3 (a :: b :: c :: r).length = 3 := by simp
    rw [hm, List.length_cons, List.length_cons, List.length_cons, e, List.append_assoc]
    congr 1
    simp only [val3, put4, List.getD_cons_zero, List.getD_cons_succ]
    simp
    refine ⟨?_, ?_, ?_, ?_⟩
    · congr 1; omega
    · congr 1; omega
    · congr 1; omega
    · congr 1; omega
theorem bare_valid : ∀ l : List UInt8, ∀ x ∈ bareL l, tabv x ≠ 0 ∧ x ≠ 61
  | [], x, h => by simp [bareL] at h
  | [a], x, h => by
    have ha := a.toNat_lt
    simp [bareL] at h
    rcases h with rfl | rfl
    · exact ⟨by rw [tab_sgn (by omega)]; omega, sgn_ne (by omega)⟩
    · exact ⟨by rw [tab_sgn (by omega)]; omega, sgn_ne (by omega)⟩
  | [a, b], x, h => by
    have ha := a.toNat_lt
    have hb := b.toNat_lt
    simp [bareL] at h
    rcases h with rfl | rfl | rfl
    · exact ⟨by rw [tab_sgn (by omega)]; omega, sgn_ne (by omega)⟩
    · exact ⟨by rw [tab_sgn (by omega)]; omega, sgn_ne (by omega)⟩
    · exact ⟨by rw [tab_sgn (by omega)]; omega, sgn_ne (by omega)⟩
  | a :: b :: c :: r, x, h => by
    have ha := a.toNat_lt
    have hb := b.toNat_lt
    have hc := c.toNat_lt
    simp [bareL] at h
    rcases h with rfl | rfl | rfl | rfl | h
    · exact ⟨by rw [tab_sgn (by omega)]; omega, sgn_ne (by omega)⟩
    · exact ⟨by rw [tab_sgn (by omega)]; omega, sgn_ne (by omega)⟩
    · exact ⟨by rw [tab_sgn (by omega)]; omega, sgn_ne (by omega)⟩
    · exact ⟨by rw [tab_sgn (by omega)]; omega, sgn_ne (by omega)⟩
    · exact bare_valid r x h
theorem u8_back {x : Nat} {c : UInt8} (h : x = c.toNat) : x.toUInt8 = c := by subst h; simp
theorem digStep0 (h : Nat) (out : List UInt8) (d : Nat) : digStep (h, 0, out) d = (h * 64 + d, 6, out) := rfl
theorem digStep6 (h : Nat) (out : List UInt8) (d : Nat) : digStep (h, 6, out) d = ((h * 64 + d) % 16, 4, out ++ [((h * 64 + d) / 16).toUInt8]) := rfl
theorem digStep4 (h : Nat) (out : List UInt8) (d : Nat) : digStep (h, 4, out) d = ((h * 64 + d) % 4, 2, out ++ [((h * 64 + d) / 4).toUInt8]) := rfl
theorem digStep2 (h : Nat) (out : List UInt8) (d : Nat) : digStep (h, 2, out) d = (0, 0, out ++ [(h * 64 + d).toUInt8]) := by
  unfold digStep
  simp [Nat.mod_one]
theorem bare_run : ∀ (l out : List UInt8), (digRun (0, 0, out) (bareL l)).2.2 = out ++ l
  | [], out => by simp [bareL, digRun]
  | [a], out => by
    have ha := a.toNat_lt
    rw [bareL]
    simp only [digRun_cons]
    rw [tab_sgn (by omega), tab_sgn (by omega)]
    simp only [digStep, digRun, List.foldl_nil]
    simp
    exact u8_back (by omega)
  | [a, b], out => by
    have ha := a.toNat_lt
    have hb := b.toNat_lt
    rw [bareL]
    simp only [digRun_cons]
    rw [tab_sgn (by omega), tab_sgn (by omega), tab_sgn (by omega)]
    simp only [digStep, digRun, List.foldl_nil]
    simp
    exact ⟨u8_back (by omega), u8_back (by omega)⟩
  | a :: b :: c :: r, out => by
    have ha := a.toNat_lt
    have hb := b.toNat_lt
    have hc := c.toNat_lt
    rw [bareL]
    simp only [digRun_cons, List.cons_append, List.nil_append]
    rw [tab_sgn (by omega), tab_sgn (by omega), tab_sgn (by omega), tab_sgn (by omega)]
    have h := bare_run r (out ++ [a] ++ [b] ++ [c])
    have e : digStep (digStep (digStep (digStep (0, 0, out) (a.toNat / 4 + 1 - 1)) (a.toNat % 4 * 16 + b.toNat / 16 + 1 - 1)) (b.toNat % 16 * 4 + c.toNat / 64 + 1 - 1)) (c.toNat % 64 + 1 - 1) = (0, 0, out ++ [a] ++ [b] ++ [c]) := by
      rw [digStep0, digStep6, digStep4, digStep2]
      rw [u8_back (c := a) (by omega), u8_back (c := b) (by omega), u8_back (c := c) (by omega)]
    rw [e, h]
    simp
/-- Up to two = at the end are cut. -/
def strip1 (l : List UInt8) : List UInt8 := if l.getLast? = some 61 then l.dropLast else l
def stripL (l : List UInt8) : List UInt8 := strip1 (strip1 l)
theorem strip1_app (l : List UInt8) : strip1 (l ++ [61]) = l := by simp [strip1]
theorem strip1_ne (l : List UInt8) (h : ∀ x ∈ l, x ≠ 61) : strip1 l = l := by
  unfold strip1
  rw [if_neg]
  intro e
  exact h _ (List.mem_of_getLast? e) rfl
theorem strip_b64 (l : List UInt8) : stripL (b64L l) = bareL l := by
  have hb := strip1_ne (bareL l) (fun x hx => (bare_valid l x hx).2)
  rw [b64L_bare]
  unfold stripL
  have hp := padN_le l.length
  generalize padN l.length = k at hp
  match k, hp with
  | 0, _ => simp [hb]
  | 1, _ => rw [show List.replicate 1 (61 : UInt8) = [61] from rfl, strip1_app, hb]
  | 2, _ => rw [show List.replicate 2 (61 : UInt8) = [61] ++ [61] from rfl, ← List.append_assoc, strip1_app, strip1_app]
/-- What base64 says, read the program's way, without a look whether it is so. -/
def undigL (l : List UInt8) : List UInt8 := (digRun (0, 0, []) (stripL l)).2.2
theorem undig_b64 (l : List UInt8) : undigL (b64L l) = l := by
  unfold undigL
  rw [strip_b64, bare_run, List.nil_append]
/-- The document's way: four by four. -/
def rval (c : UInt8) : Nat := tabv c - 1
def rfour (a b c d : UInt8) : Nat := rval a * 262144 + rval b * 4096 + rval c * 64 + rval d
def rgroups : List UInt8 → List UInt8
  | a :: b :: c :: d :: r => [(rfour a b c d / 65536).toUInt8, (rfour a b c d / 256 % 256).toUInt8, (rfour a b c d % 256).toUInt8] ++ rgroups r
  | _ => []
def rcut (l : List UInt8) : Nat := if l.getLast? = some 61 then (if l.dropLast.getLast? = some 61 then 2 else 1) else 0
theorem rval_sgn {v : Nat} (h : v < 64) : rval (sgn v) = v := by unfold rval; rw [tab_sgn h]; omega
theorem rgroups_b64 : ∀ l : List UInt8, rgroups (b64L l) = l ++ List.replicate (padN l.length) 0
  | [] => by rw [b64L_nil]; rfl
  | [a] => by
    have ha := a.toNat_lt
    rw [b64L_bare, bareL]
    show rgroups [_, _, 61, 61] = [_, 0, 0]
    simp only [rgroups, rfour]
    rw [rval_sgn (by omega), rval_sgn (by omega), show rval 61 = 0 from rfl]
    simp
    refine ⟨u8_back (by omega), ?_, ?_⟩
    · rw [show (a.toNat / 4 * 262144 + a.toNat % 4 * 16 * 4096) / 256 % 256 = 0 from by omega]; rfl
    · rw [show (a.toNat / 4 * 262144 + a.toNat % 4 * 16 * 4096) % 256 = 0 from by omega]; rfl
  | [a, b] => by
    have ha := a.toNat_lt
    have hb := b.toNat_lt
    rw [b64L_bare, bareL]
    show rgroups [_, _, _, 61] = [_, _, 0]
    simp only [rgroups, rfour]
    rw [rval_sgn (by omega), rval_sgn (by omega), rval_sgn (by omega), show rval 61 = 0 from rfl]
    simp
    refine ⟨u8_back (by omega), u8_back (by omega), u8_back (by show _ = 0; omega)⟩
  | a :: b :: c :: r => by
    have ha := a.toNat_lt
    have hb := b.toNat_lt
    have hc := c.toNat_lt
    have e : padN (r.length + 1 + 1 + 1) = padN r.length := by unfold padN; omega
    have h := rgroups_b64 r
    rw [b64L_bare] at h
    rw [b64L_bare, bareL, List.length_cons, List.length_cons, List.length_cons, e]
    simp only [List.cons_append, List.nil_append, rgroups, rfour]
    rw [h, rval_sgn (by omega), rval_sgn (by omega), rval_sgn (by omega), rval_sgn (by omega)]
    simp
    refine ⟨u8_back (by omega), u8_back (by omega), u8_back (by omega)⟩
theorem rcut_b64 (l : List UInt8) : rcut (b64L l) = padN l.length := by
  have hb := bare_valid l
  rw [b64L_bare]
  have hp := padN_le l.length
  have hn : (bareL l).getLast? ≠ some 61 := fun e => (hb _ (List.mem_of_getLast? e)).2 rfl
  generalize padN l.length = k at hp
  unfold rcut
  match k, hp with
  | 0, _ => simp [hn]
  | 1, _ => rw [show List.replicate 1 (61 : UInt8) = [61] from rfl]; simp [hn]
  | 2, _ => rw [show List.replicate 2 (61 : UInt8) = [61] ++ [61] from rfl, ← List.append_assoc]; simp
def rundigL (l : List UInt8) : List UInt8 := (rgroups l).take ((rgroups l).length - rcut l)
theorem rundig_b64 (l : List UInt8) : rundigL (b64L l) = l ∧ rcut (b64L l) ≤ (rgroups (b64L l)).length := by
  unfold rundigL
  rw [rgroups_b64, rcut_b64]
  simp
/-- The bytes that are written so, if any are. -/
def unb64V (s : ByteArray) : Option ByteArray := let t : ByteArray := ⟨(undigL s.data.toList).toArray⟩; if b64S t = s then some t else none
theorem b64S_list {t s : ByteArray} (h : b64S t = s) : s.data.toList = b64L t.data.toList := by rw [← h]; rfl
theorem unb64V_of {t s : ByteArray} (h : b64S t = s) : unb64V s = some t := by
  have e : (⟨(undigL s.data.toList).toArray⟩ : ByteArray) = t := by
    rw [b64S_list h, undig_b64]
  simp only [unb64V, e, h, if_true]
theorem unb64V_none {s : ByteArray} (h : ∀ t, b64S t ≠ s) : unb64V s = none := by
  simp only [unb64V]
  rw [if_neg (h _)]
theorem unb64V_some {t s : ByteArray} (h : unb64V s = some t) : b64S t = s := by
  simp only [unb64V] at h
  split at h
  · injection h with h; subst h; assumption
  · cases h
end Go.Proofs.YtfhaoamlagnpjaaDoor

set_option linter.unusedVariables false
set_option linter.unusedSimpArgs false
namespace Go.Proofs.YtfhaoamlagnpjaaDoor
open Go.RowKit Go.Lib
/-- What UnB64 answers. -/
def unbA (s : ByteArray) : Value := match unb64V s with
  | some t => .tuple #[.string t, .int .i64 0]
  | none => .tuple #[.string ⟨#[]⟩, .int .i64 40]
theorem unbA_some {s t : ByteArray} (h : unb64V s = some t) : unbA s = .tuple #[.string t, .int .i64 0] := by unfold unbA; rw [h]
theorem unbA_none {s : ByteArray} (h : unb64V s = none) : unbA s = .tuple #[.string ⟨#[]⟩, .int .i64 40] := by unfold unbA; rw [h]
end Go.Proofs.YtfhaoamlagnpjaaDoor

/-
  Several texts in one: CONTRACTS of strings.Builder at this dump: copyCheck and WriteString (the shelf's could not be laid: the toy's body names one type more). | CONTRACT of note.Text. | CONTRACT of note.Text: the refusals ahead of the lines, and all ways together. | CONTRACTS of the law's helpers: texts, num. | AN ARGUMENT of type api.Checkpoint, opened; the utf8 tables out of the row's condition.
-/
import Derived.Test.YtphoflcilpopgaaGreatDoorRows
import Derived.Lib.FrozenHead
import Derived.Lib.OthersKept
import Derived.Deep.QuietTactic
import Derived.BigQuiet
import Derived.Lib.SmallJoins
import Derived.Lib.LaidU8T
import Derived.Deep.Strs
import Derived.Test.YtphoflcilpopgaaGreatDoorGBase
import Derived.Test.YtphoflcilpopgaaGreatDoorSShelf
import Derived.Test.YtphoflcilpopgaaGreatDoorGMacs
import Derived.Test.YtphoflcilpopgaaGreatDoorGDecs
import Derived.Test.YtphoflcilpopgaaGreatDoorGWhl
import Derived.Test.YtphoflcilpopgaaGreatDoorGLns
set_option linter.unusedVariables false
set_option linter.unusedSimpArgs false
namespace Go.Proofs.YtphoflcilpopgaaGreatDoor
open Go.RowKit Go.Lib
set_option maxRecDepth 100000 in
set_option maxHeartbeats 1000000 in
theorem copyCheck_fresh (B b : Nat) (bs : List Value) (w : World) (h : BuilderAtF 100 5 B b (.pointer none) bs w) :
    Calls Tryz.prog 81 #[.pointer (some ⟨b, 0, none⟩)] w fun e w' => e = .returned (.tuple #[]) ∧ w' = w.setCell ⟨b, 0, none⟩ (.pointer (some ⟨b, 0, none⟩)) := by
  have c0 := h.cell0
  have hs := h.shape
  have f0 : w.frozen? ⟨b, 0, none⟩ = false := h.frozen0
  go_enter Tryz.func81, Tryz.ntmps81
  obtain ⟨j, hj, hjs⟩ := Option.map_eq_some_iff.1 (show (Tryz.prog.info? 100).map (·.size) = some 2 by kernel_rfl)
  go_wp2
  rw [Lib.run_to_unsafe w ⟨b, 0, none⟩ Tryz.underlying98 Tryz.underlying138 hj (by rw [hjs]; decide) hs (Nat.zero_lt_succ 1)]
  simp only [Result.andThen]
  rw [Oper.upon_value]
  go_wp2
  rw [run_callFunc_extern Tryz.func95 (by kernel_rfl) (by kernel_rfl) (by kernel_rfl) (e := Extern.AbiNoEscape.same) (by kernel_rfl)]
  rw [Lib.run_noEscape]
  simp only [Result.andThen]
  rw [Oper.upon_value]
  go_wp2
  rw [Lib.run_from_unsafe w ⟨b, 0, none⟩ Tryz.underlying138 Tryz.underlying98 hj hs (by kernel_rfl)]
  simp only [Result.andThen]
  rw [Oper.upon_value]
  go_wp2
  go_end0
  exact ⟨rfl, rfl⟩
set_option maxRecDepth 100000 in
set_option maxHeartbeats 1000000 in
theorem copyCheck_used (b : Nat) (w : World) (h0 : w.cell? ⟨b, 0, none⟩ = some (.pointer (some ⟨b, 0, none⟩))) :
    Calls Tryz.prog 81 #[.pointer (some ⟨b, 0, none⟩)] w fun e w' => e = .returned (.tuple #[]) ∧ w' = w := by
  obtain ⟨j, hj, _⟩ := Option.map_eq_some_iff.1 (show (Tryz.prog.info? 100).map (·.size) = some 2 by kernel_rfl)
  go_enter Tryz.func81, Tryz.ntmps81
  go_wp2
  rw [Lib.run_neq_ptr_same w _ Tryz.underlying98 hj]
  go_wp2
  go_end0
  exact ⟨rfl, rfl⟩
theorem copyCheck_any (B b : Nat) (bs : List Value) (w : World) (h : Lib.IsBuilderF 100 5 B b bs w) :
    Calls Tryz.prog 81 #[.pointer (some ⟨b, 0, none⟩)] w fun e w' => e = .returned (.tuple #[]) ∧ (Lib.BuilderAtF 100 5 B b (.pointer (some ⟨b, 0, none⟩)) bs w' ∧ Below B w w' ∧ Lib.OthersKept 5 (some b) w w') := by
  rcases h with h | h
  · refine (copyCheck_fresh B b bs w h).mono ?_
    rintro e w' ⟨rfl, rfl⟩
    exact ⟨rfl, h.used _, (Below.refl B w).setCell (p := ⟨b, 0, none⟩) h.1 _, (Lib.OthersKept.refl _ _ w).setCell ⟨b, 0, none⟩ rfl _⟩
  · refine (copyCheck_used b w h.cell0).mono ?_
    rintro e w' ⟨rfl, rfl⟩
    exact ⟨rfl, h, Below.refl B _, Lib.OthersKept.refl _ _ _⟩
set_option maxRecDepth 100000 in
set_option maxHeartbeats 2000000 in
/-- WriteString. -/
theorem writeString_any (B b : Nat) (bs : List Value) (s : ByteArray) (w : World) (h : Lib.IsBuilderF 100 5 B b bs w) (hlen : bs.length + s.size ≤ 140737488355328) (hBw : B ≤ w.heap.size) :
    Calls Tryz.prog 60 #[.pointer (some ⟨b, 0, none⟩), .string s] w fun e w' => e = .returned (.tuple #[.int .i64 s.size, .nilIface]) ∧ (Lib.BuilderAtF 100 5 B b (.pointer (some ⟨b, 0, none⟩)) (bs ++ Lib.strCells s) w' ∧ Below B w w' ∧ Lib.OthersKept 5 (some b) w w') := by
  obtain ⟨i0, hi, hz0, hz1, hz2⟩ := info_parts (show (Tryz.prog.info? 5).map (fun i => (i.zero, i.size, i.bytes)) = some (some (.int .u8 0), 1, 1) by kernel_rfl)
  go_enter Tryz.func60, Tryz.ntmps60
  go_wp2_with fail
  refine (copyCheck_any B b bs _ h).mono ?_
  rintro e w1 ⟨rfl, h1, hb1, hk1⟩
  obtain ⟨hB, v, hbk, hown, hne⟩ := h1
  have c0 : w1.cell? ⟨b, 0, none⟩ = some (.pointer (some ⟨b, 0, none⟩)) := by rw [Lib.cell_of_heap hbk]; rfl
  have c1 : w1.cell? ⟨b, 1, none⟩ = some v := by rw [Lib.cell_of_heap hbk]; rfl
  go_wp2_with (at_builtin; refine Lib.wpList_append_own_stringF _ rfl _ _ 81 9 rfl B 5 i0 Tryz.underlying81 Tryz.underlying9 hi hz0 hz1 hz2 _ _ _ rfl hown s rfl ?c3 ?c4 ?c5 ?_)
  case c3 => unfold maxLen; omega
  case c4 => omega
  case c5 => have := hb1.size; omega
  intro v' w2 hown' hgrow _
  have hlt : b < w1.heap.size := by
    rcases Nat.lt_or_ge b w1.heap.size with h' | h'
    · exact h'
    · simp [Array.getElem?_eq_none h'] at hbk
  have hb2 : w2.heap[b]? = some (.cells #[.pointer (some ⟨b, 0, none⟩), v] 100 (0, 0)) := by
    rw [hgrow.block b hlt (fun e => hne e.symm)]
    exact hbk
  have d0 : w2.cell? ⟨b, 0, none⟩ = some (.pointer (some ⟨b, 0, none⟩)) := by rw [Lib.cell_of_heap hb2]; rfl
  have d1 : w2.cell? ⟨b, 1, none⟩ = some v := by rw [Lib.cell_of_heap hb2]; rfl
  have f1 : w2.frozen? ⟨b, 1, none⟩ = false := Lib.frozen_of_heap hb2 1
  obtain ⟨ao, n', cap, rfl⟩ : ∃ ao n' cap, v' = .slice ao n' cap := by
    rcases hown'.2 with ⟨hv, _⟩ | ⟨g, cap, cur, fz, hv, _⟩
    · exact ⟨_, _, _, hv⟩
    · exact ⟨_, _, _, hv⟩
  go_wp2
  go_ret2
  refine ⟨rfl, ?_, ?_, (hk1.grown hgrow (Lib.ownsRowF_kind hown)).setCell ⟨b, 1, none⟩ rfl _⟩
  · exact Lib.BuilderAtF.put (T := 100) (e := 5) hB hb2 (bs' := bs ++ Lib.strCells s) (by simpa [Lib.strCells_length] using hown') (by decide)
  · exact (hb1.grown hgrow (by have := hb1.size; omega) (fun k hk => (hown.lt k hk).1)).setCell (p := ⟨b, 1, none⟩) hB _
theorem builder_below {T e : TypeId} {B b : Nat} {bs : List Value} {w w' : World} (h : IsBuilderF T e B b bs w) (hb : Below w.heap.size w w') : IsBuilderF T e B b bs w' := by
  have key : ∀ p, BuilderAtF T e B b p bs w → BuilderAtF T e B b p bs w' := by
    rintro p ⟨hB, v, hbk, hown, hne⟩
    have hlt : b < w.heap.size := (Array.getElem?_eq_some_iff.1 hbk).1
    refine ⟨hB, v, (hb.block b hlt).trans hbk, hown.kept (only_of_below hb none) ?_, hne⟩
    cases v.ownBlock with
    | none => exact .inl rfl
    | some k => exact .inr (by simp)
  exact h.elim (fun x => .inl (key _ x)) (fun x => .inr (key _ x))
theorem builder_drew {T e : TypeId} {B b : Nat} {bs : List Value} {w : World} (h : IsBuilderF T e B b bs w) : IsBuilderF T e B b bs w.drew := h
theorem strCells_bytes (s : ByteArray) : Lib.strCells s = Lib.byteCells s.data.toList := by
  simp [Lib.strCells, Lib.byteCells]
end Go.Proofs.YtphoflcilpopgaaGreatDoor

set_option linter.unusedVariables false
set_option linter.unusedSimpArgs false
namespace Go.Proofs.YtphoflcilpopgaaGreatDoor
open Go.RowKit Go.Lib
theorem builder_lt {T e : TypeId} {B b : Nat} {bs : List Value} {w : World} (h : Lib.IsBuilderF T e B b bs w) : b < w.heap.size := h.elim (fun x => x.lt) (fun x => x.lt)
def headB (o : ByteArray) (n : Int) (r : ByteArray) : ByteArray := o ++ ⟨#[10]⟩ ++ decS n ++ ⟨#[10]⟩ ++ b64S r ++ ⟨#[10]⟩
def linesL (es : List ByteArray) : List UInt8 := es.flatMap fun x => x.data.toList ++ [10]
theorem linesL_ge : ∀ es : List ByteArray, es.length ≤ (linesL es).length
  | [] => by simp [linesL]
  | x :: r => by
    have := linesL_ge r
    simp [linesL] at this ⊢
    omega
def lineOk (x : ByteArray) : Bool := decide (x.size ≠ 0) && wholeP false x 0
/-- What is answered where origin, size and root are good. -/
def textM (o : ByteArray) (n : Int) (r : ByteArray) (es : List ByteArray) : Value :=
  if es.all lineOk = true then .tuple #[.string ⟨((headB o n r).data.toList ++ linesL es).toArray⟩, .int .i64 0] else .tuple #[.string ⟨#[]⟩, .int .i64 43]
theorem textM_no {o : ByteArray} {n : Int} {r : ByteArray} {es : List ByteArray} {k : Nat} (h : k < es.length) (hx : lineOk es[k] = false) : textM o n r es = .tuple #[.string ⟨#[]⟩, .int .i64 43] := by
  have : ¬ es.all lineOk = true := fun ha => by
    rw [List.all_eq_true] at ha
    have := ha _ (List.getElem_mem h)
    rw [hx] at this
    cases this
  unfold textM
  rw [if_neg this]
theorem textM_yes {o : ByteArray} {n : Int} {r : ByteArray} {es : List ByteArray} (h : ∀ j (h : j < es.length), lineOk es[j] = true) : textM o n r es = .tuple #[.string ⟨((headB o n r).data.toList ++ linesL es).toArray⟩, .int .i64 0] := by
  have : es.all lineOk = true := by
    rw [List.all_eq_true]
    intro x hx
    obtain ⟨j, hj, rfl⟩ := List.mem_iff_getElem.1 hx
    exact h j hj
  unfold textM
  rw [if_pos this]
theorem linesL_take_succ (es : List ByteArray) (k : Nat) (h : k < es.length) : linesL (es.take (k + 1)) = linesL (es.take k) ++ (es[k].data.toList ++ [10]) := by
  unfold linesL
  rw [List.take_succ_eq_append_getElem h, List.flatMap_append]
  simp
theorem linesL_take_le (es : List ByteArray) (k : Nat) : (linesL (es.take k)).length ≤ (linesL es).length := by
  have h : linesL es = linesL (es.take k) ++ linesL (es.drop k) := by
    unfold linesL
    rw [← List.flatMap_append, List.take_append_drop]
  rw [h, List.length_append]
  omega
theorem linesL_at (es : List ByteArray) (k : Nat) (h : k < es.length) : es[k].size + 1 ≤ (linesL es).length := by
  have h1 := linesL_take_le es (k + 1)
  rw [linesL_take_succ es k h] at h1
  simp at h1
  have : es[k].data.size = es[k].size := rfl
  omega
set_option maxRecDepth 100000 in
set_option maxHeartbeats 4000000 in
theorem text_main (o r : ByteArray) (n : Int) (v : Value) (es : List ByteArray) (w : World) (ho : o.size ≤ 1099511627776) (hl : (linesL es).length ≤ 1099511627776) (hv : StrsAt w v es) (hno : nameOk o = true) (h0 : 0 ≤ n) (h1 : n ≤ 4611686018427387904) (hr1 : 1 ≤ r.size) (hr2 : r.size ≤ 32) (hT : Lib.Utf8Tabs 5 6 w) :
    Calls Tryz.prog 27 #[.agg #[.string o, .int .i64 n, .string r, v]] w fun e w' => e = .returned (textM o n r es) ∧ Below w.heap.size w w' := by
  have Hno := hide hno; clear hno
  have HT := hide hT; clear hT
  obtain ⟨A, c, rfl, hel⟩ := hv
  have hel' : ∀ j (h : j < es.length), ∃ a, A = some a ∧ (a.add j).block < w.heap.size ∧ w.cell? (a.add j) = some (.string es[j]) := fun j h => by
    obtain ⟨a, e, hc⟩ := hel j h
    exact ⟨a, e, World.block_lt_of_cell? w _ hc, hc⟩
  have HEL := hide hel'; clear hel hel'
  have hnes : es.length ≤ 1099511627776 := Nat.le_trans (linesL_ge es) hl
  have Hl := hide hl; clear hl
  have hd := fun w => dec_any n w (by omega) (by omega)
  have hb := fun w => b64_any r w (by omega)
  have HD := hide hd; have HB := hide hb; clear hd hb
  have hds : (decS n).size ≤ 20 := by
    have := digL_length 19 n.toNat (by omega) (by omega)
    show (decL n).toArray.size ≤ 20
    unfold decL
    rw [if_pos h0, List.size_toArray]
    omega
  have hbs := b64S_size r
  have hbs' : (b64S r).size ≤ 44 := by omega
  go_enter Tryz.func27, Tryz.ntmps27
  go_wp2_with fail
  refine (name_any _ _ (by simp only [maxLen]; omega)).mono ?_
  rintro e w1 ⟨rfl, rfl⟩
  rw [unhide Hno]
  go_wp2_with fail
  obtain ⟨D, HDe⟩ : ∃ D, Hid (decS n = D) := ⟨_, Lib.hid rfl⟩
  obtain ⟨E, HEe⟩ : ∃ E, Hid (b64S r = E) := ⟨_, Lib.hid rfl⟩
  rw [HDe.out] at HD hds
  rw [HEe.out] at HB hbs'
  have hB0 : Lib.IsBuilderF 100 5 (w.heap.size + 1) (w.heap.size + 1) [] ((w.alloc (.cells #[.string o, .int .i64 n, .string r, .slice A es.length c] 30)).alloc (.cells #[.pointer none, .slice none 0 0] 100)) := by
    have h := Lib.IsBuilderF.of (Lib.fresh_isBuilder 100 5 (w.alloc (.cells #[.string o, .int .i64 n, .string r, .slice A es.length c] 30)))
    simpa using h
  have hC0 : Blk ((w.alloc (.cells #[.string o, .int .i64 n, .string r, .slice A es.length c] 30)).alloc (.cells #[.pointer none, .slice none 0 0] 100)) w.heap.size 30 #[.string o, .int .i64 n, .string r, .slice A es.length c] := (Blk.new w _ _).alloc _
  have hw0 : Below w.heap.size w ((w.alloc (.cells #[.string o, .int .i64 n, .string r, .slice A es.length c] 30)).alloc (.cells #[.pointer none, .slice none 0 0] 100)) := ((Below.refl _ _).alloc (Nat.le_refl _) _).alloc (by simp) _
  have hsz0 : ((w.alloc (.cells #[.string o, .int .i64 n, .string r, .slice A es.length c] 30)).alloc (.cells #[.pointer none, .slice none 0 0] 100)).heap.size = w.heap.size + 2 := by simp
  generalize ((w.alloc (.cells #[.string o, .int .i64 n, .string r, .slice A es.length c] 30)).alloc (.cells #[.pointer none, .slice none 0 0] 100)) = w0 at *
  have k0 := hC0.cell 0
  have k1 := hC0.cell 1
  have k2 := hC0.cell 2
  simp only [List.getElem?_toArray, List.getElem?_cons_zero, List.getElem?_cons_succ] at k0 k1 k2
  have e10 : (⟨#[10]⟩ : ByteArray).size = 1 := rfl
  have x1 : ¬ (9223372036854775807 < o.size + 1) := by omega
  have x2 : ¬ (9223372036854775807 < o.size + 1 + D.size) := by omega
  have x3 : ¬ (9223372036854775807 < o.size + 1 + D.size + 1) := by omega
  have x4 : ¬ (9223372036854775807 < o.size + 1 + D.size + 1 + E.size) := by omega
  have x5 : ¬ (9223372036854775807 < o.size + 1 + D.size + 1 + E.size + 1) := by omega
  have H0 := hide (And.intro hB0 (And.intro hC0 (And.intro hw0 hsz0))); clear hB0 hC0 hw0 hsz0
  go_region_held3 (fun W => W.cell? ⟨w.heap.size, 0, none⟩ = some (.string o) ∧ W.cell? ⟨w.heap.size, 1, none⟩ = some (.int .i64 n) ∧ W.cell? ⟨w.heap.size, 2, none⟩ = some (.string r)) (refine ⟨?_, ?_, ?_⟩ <;> assumption) (first | (go_at_call 56; refine (unhide HD _).mono ?_; rintro e w1 ⟨rfl, hb1⟩; have hC1 : Blk w1 w.heap.size 30 #[.string o, .int .i64 n, .string r, .slice A es.length c] := (unhide H0).2.1.drew.below hb1 (unhide H0).2.1.lt; have k10 := hC1.cell 0; have k11 := hC1.cell 1; have k12 := hC1.cell 2; simp only [List.getElem?_toArray, List.getElem?_cons_zero, List.getElem?_cons_succ] at k10 k11 k12) | (go_at_call 59; refine (unhide HB _).mono ?_; rintro e w2 ⟨rfl, hb2⟩; have hC2 : Blk w2 w.heap.size 30 #[.string o, .int .i64 n, .string r, .slice A es.length c] := hC1.below hb2 hC1.lt; have k20 := hC2.cell 0; have k21 := hC2.cell 1; have k22 := hC2.cell 2; simp only [List.getElem?_toArray, List.getElem?_cons_zero, List.getElem?_cons_succ] at k20 k21 k22) | (go_at_call 60; have hB2 := builder_below (builder_below (builder_drew (unhide H0).1) hb1) hb2; have hsz2 : w.heap.size + 1 ≤ w2.heap.size := by { have h1 := hb1.size; have h2 := hb2.size; have h3 := (unhide H0).2.2.2; simp at h1; omega }; refine (writeString_any _ _ [] _ w2 hB2 (by simp only [ByteArray.size_append, e10, List.length_nil]; omega) hsz2).mono ?_; rintro e w3 ⟨rfl, hB3, hb3, ho3⟩; have hC3 : Blk w3 w.heap.size 30 #[.string o, .int .i64 n, .string r, .slice A es.length c] := hC2.below hb3 (Nat.lt_succ_self _); have k30 := hC3.cell 0; have k31 := hC3.cell 1; have k32 := hC3.cell 2; simp only [List.getElem?_toArray, List.getElem?_cons_zero, List.getElem?_cons_succ] at k30 k31 k32))
  have s0 : w.heap.size ≤ w0.drew.heap.size := by have h := (unhide H0).2.2.2; show w.heap.size ≤ w0.heap.size; omega
  have hw1 : Below w.heap.size w w1 := (unhide H0).2.2.1.drew.trans (hb1.mono s0)
  have hw2 : Below w.heap.size w w2 := hw1.trans (hb2.mono hw1.size)
  have hw3 : Below w.heap.size w w3 := hw2.trans (hb3.mono (by omega))
  clear hw1 hw2 s0 e10
  rw [List.nil_append, strCells_bytes] at hB3
  have H3 := hide (And.intro hB3 (And.intro hC3 (And.intro hw3 hsz2))); clear hB3 hC3 hw3 hsz2 hB2 ho3 hb3 hb2 hb1 hC2 hC1 k0 k1 k2 k10 k11 k12 k20 k21 k22 k30 k31 k32
  have k33 := (unhide H3).2.1.cell 3
  simp only [List.getElem?_toArray, List.getElem?_cons_zero, List.getElem?_cons_succ] at k33
  go_wp2_with fail
  rename_i a1 a2 a3 a4 aK aQ
  have HF : Hid ((o ++ ⟨#[10]⟩ ++ D ++ ⟨#[10]⟩ ++ E ++ ⟨#[10]⟩ : ByteArray) = headB o n r) := by unfold headB; rw [HDe.out, HEe.out]; rfl
  have hF2 : (headB o n r).data.toList.length ≤ 2199023255552 := by
    rw [Array.length_toList]
    show (headB o n r).size ≤ _
    rw [← HF.out]
    simp only [ByteArray.size_append, show (⟨#[10]⟩ : ByteArray).size = 1 from rfl]
    omega
  have HF2 := hide hF2
  clear hF2 a1 a2 a3 a4 x1 x2 x3 x4 x5 h0 h1 hr1 hr2 k33 hds hbs hbs' H0
  have H4 : Hid (BuilderAtF 100 5 (w.heap.size + 1) (w.heap.size + 1) (.pointer (some ⟨w.heap.size + 1, 0, none⟩)) (Lib.byteCells ((headB o n r).data.toList ++ linesL (es.take 0))) w3 ∧ Below w.heap.size w w3) := by
    have h := (unhide H3).1
    rw [HF.out] at h
    refine ⟨?_, (unhide H3).2.2.1⟩
    rw [show linesL (es.take 0) = [] from rfl, List.append_nil]
    exact h
  clear H3
  go_loopw [49] (fun i wr => ∃ k : Nat, k ≤ es.length ∧ i = .int .i64 k ∧ Hid (∀ j (h : j < es.length), j < k → lineOk es[j] = true) ∧ BuilderAtF 100 5 (w.heap.size + 1) (w.heap.size + 1) (.pointer (some ⟨w.heap.size + 1, 0, none⟩)) (Lib.byteCells ((headB o n r).data.toList ++ linesL (es.take k))) wr ∧ Below w.heap.size w wr) (fun i _ => es.length - (RowKit.intOf i).toNat)
  case atStart => exact ⟨0, by omega, rfl, Lib.hid (fun j _ h => by omega), (unhide H4).1, (unhide H4).2⟩
  case round =>
    clear H4
    obtain ⟨k, hk, rfl, hok, hB, hb⟩ := hrel
    have HX := hide (And.intro hok (And.intro hB hb)); clear hok hB hb
    rcases Nat.lt_or_ge k es.length with hlt | hge
    · obtain ⟨a, rfl, hab, hac⟩ := unhide HEL k hlt
      have hcx : wr.cell? (a.add k) = some (.string es[k]) := ((unhide HX).2.2.cell hab).trans hac
      have hxs : es[k].size ≤ 1099511627776 := by have := linesL_at es k hlt; have := unhide Hl; omega
      have hno : Hid (∀ x, es[k] = x → lineOk x = false → textM o n r es = .tuple #[.string ⟨#[]⟩, .int .i64 43]) := fun x e h => textM_no hlt (by rw [e]; exact h)
      generalize hxe : es[k] = x at hcx hxs
      have HXE := Lib.hid hxe
      clear hab hac hxe
      have hwh := fun W (hT : Lib.Utf8Tabs 5 6 W) => whole_any false x W (by simp only [maxLen]; omega) hT
      have HWH := hide hwh; clear hwh
      by_cases hx0 : x.toList = []
      · have hres : Hid (textM o n r es = .tuple #[.string ⟨#[]⟩, .int .i64 43]) := hno.out x HXE.out (by
          rw [ByteArray.toList_eq] at hx0
          have : x.size = 0 := by have h := congrArg List.length hx0; rw [Array.length_toList] at h; exact h
          simp [lineOk, this])
        go_wp2_with fail
        go_ret2
        exact ⟨by rw [hres.out]; rfl, (unhide HX).2.2⟩
      · have hsz : Hid (x.size ≠ 0) := fun h => hx0 (by
          rw [ByteArray.toList_eq]
          exact List.eq_nil_of_length_eq_zero (by rw [Array.length_toList]; exact h))
        go_wp2_with fail
        refine (unhide HWH _ (Tabs.below (unhide HT) (unhide HX).2.2 (Tabs.lt3 (unhide HT)) (Tabs.lt4 (unhide HT)))).mono ?_
        rintro e w4 ⟨rfl, hb4⟩
        have hb4' := (unhide HX).2.2.trans (hb4.mono (unhide HX).2.2.size)
        have hB4 := builder_below (.inr (unhide HX).2.1) hb4
        have H4 := hide (And.intro hb4' hB4); clear hb4 hb4' hB4
        cases hwp : wholeP false x 0 with
        | false =>
          have hres : Hid (textM o n r es = .tuple #[.string ⟨#[]⟩, .int .i64 43]) := hno.out x HXE.out (by simp [lineOk, hwp])
          go_wp2_with fail
          go_ret2
          exact ⟨by rw [hres.out]; rfl, (unhide H4).1⟩
        | true =>
          have hyes : Hid (lineOk x = true) := by simp [Hid, lineOk, hwp, hsz.out]
          have y1 : ¬ (9223372036854775807 < x.size + 1) := by omega
          have hie : x.toList.isEmpty = false := by simpa using hx0
          go_wp2_with fail
          have hlen : (Lib.byteCells ((headB o n r).data.toList ++ linesL (es.take k))).length + (x ++ ⟨#[10]⟩ : ByteArray).size ≤ 140737488355328 := by
            have h1 := linesL_take_le es k
            have h2 := unhide Hl
            have h3 := unhide HF2
            rw [Lib.byteCells_length, List.length_append, ByteArray.size_append, show (⟨#[10]⟩ : ByteArray).size = 1 from rfl]
            omega
          have hlt4 := builder_lt (unhide H4).2
          have hws := writeString_any (w.heap.size + 1) (w.heap.size + 1) (Lib.byteCells ((headB o n r).data.toList ++ linesL (es.take k))) (x ++ ⟨#[10]⟩) w4 (unhide H4).2 hlen (Nat.le_of_lt hlt4)
          refine hws.mono ?_
          rintro e w5 ⟨rfl, hB5, hb5, ho5⟩
          have hb5' := (unhide H4).1.trans (hb5.mono (Nat.le_succ _))
          rw [strCells_bytes, ← Lib.byteCells_append] at hB5
          have H5 := hide (And.intro hB5 hb5'); clear hB5 hb5 hb5' ho5
          go_wp2_with fail
          go_roundw
          case rel =>
            refine ⟨k + 1, by omega, by go_num, Lib.hid (fun j hj hjk => ?_), ?_, (unhide H5).2⟩
            · rcases Nat.lt_succ_iff_lt_or_eq.1 hjk with h' | rfl
              · exact (unhide HX).1.out j hj h'
              · rw [HXE.out]; exact hyes.out
            · rw [linesL_take_succ es k hlt, HXE.out, ← List.append_assoc]
              have h := (unhide H5).1
              simpa using h
          case measure => simp [RowKit.intOf]; omega
    · have hke : k = es.length := by omega
      have hB := (unhide HX).2.1
      rw [List.take_of_length_le (by omega)] at hB
      have hres : Hid (textM o n r es = .tuple #[.string ⟨((headB o n r).data.toList ++ linesL es).toArray⟩, .int .i64 0]) := textM_yes (fun j h => (unhide HX).1.out j h (by omega))
      have hst := Tryz.Builder_String_any_k (w.heap.size + 1) (w.heap.size + 1) _ wr (.inr hB) (by have := builder_lt (.inr hB); omega)
      have HST := hide hst; clear hst hB
      go_wp2_with fail
      refine (unhide HST).mono ?_
      rintro e w6 ⟨rfl, -, hb6, -⟩
      have hb6' := (unhide HX).2.2.trans (hb6.mono (Nat.le_succ _))
      go_wp2_with fail
      go_ret2
      exact ⟨by rw [hres.out]; rfl, hb6'⟩
end Go.Proofs.YtphoflcilpopgaaGreatDoor

set_option linter.unusedVariables false
set_option linter.unusedSimpArgs false
namespace Go.Proofs.YtphoflcilpopgaaGreatDoor
open Go.RowKit Go.Lib
/-- What Text answers. -/
def textV (o : ByteArray) (n : Int) (r : ByteArray) (es : List ByteArray) : Value :=
  if nameOk o = false then .tuple #[.string ⟨#[]⟩, .int .i64 203]
  else if n < 0 ∨ 4611686018427387904 < n then .tuple #[.string ⟨#[]⟩, .int .i64 10]
  else if r.size < 1 ∨ 32 < r.size then .tuple #[.string ⟨#[]⟩, .int .i64 72]
  else textM o n r es
theorem textV_form (o : ByteArray) (n : Int) (r : ByteArray) (es : List ByteArray) : ∃ (x : ByteArray) (z : Nat), textV o n r es = .tuple #[.string x, .int .i64 z] ∧ z < 1000 := by
  unfold textV textM
  split
  · exact ⟨_, 203, rfl, by decide⟩
  · split
    · exact ⟨_, 10, rfl, by decide⟩
    · split
      · exact ⟨_, 72, rfl, by decide⟩
      · split
        · exact ⟨_, 0, rfl, by decide⟩
        · exact ⟨_, 43, rfl, by decide⟩
set_option maxRecDepth 100000 in
set_option maxHeartbeats 1000000 in
theorem noteTx_any (o r : ByteArray) (n : Int) (v : Value) (es : List ByteArray) (w : World) (ho : o.size ≤ 1099511627776) (hrs : r.size ≤ 1099511627776) (hl : (linesL es).length ≤ 1099511627776) (hv : StrsAt w v es) (hT : Lib.Utf8Tabs 5 6 w) :
    Calls Tryz.prog 27 #[.agg #[.string o, .int .i64 n, .string r, v]] w fun e w' => e = .returned (textV o n r es) ∧ Below w.heap.size w w' := by
  have hb1 : Below w.heap.size w (w.alloc (.cells #[.string o, .int .i64 n, .string r, v] 30)) := (Below.refl _ _).alloc (Nat.le_refl _) _
  by_cases h1 : nameOk o = false
  · have hres : Hid (textV o n r es = .tuple #[.string ⟨#[]⟩, .int .i64 203]) := by unfold textV; rw [if_pos h1]; rfl
    have H1 := hide h1; clear h1 hv hT
    go_enter Tryz.func27, Tryz.ntmps27
    go_wp2_with fail
    refine (name_any _ _ (by simp only [maxLen]; omega)).mono ?_
    rintro e w1 ⟨rfl, rfl⟩
    rw [unhide H1]
    go_wp2_with fail
    go_ret2
    refine ⟨by rw [hres.out]; rfl, ?_⟩
    first | exact hb1 | exact hb1.alloc hb1.size _
  · have h1' : nameOk o = true := by simpa using h1
    by_cases h2 : n < 0 ∨ 4611686018427387904 < n
    · have hres : Hid (textV o n r es = .tuple #[.string ⟨#[]⟩, .int .i64 10]) := by unfold textV; rw [if_neg h1, if_pos h2]; rfl
      have H1 := hide h1'; clear h1 h1' hv hT
      have hd : (decide (n < 0) || decide (4611686018427387904 < n)) = true := by simpa using h2
      go_enter Tryz.func27, Tryz.ntmps27
      go_wp2_with fail
      refine (name_any _ _ (by simp only [maxLen]; omega)).mono ?_
      rintro e w1 ⟨rfl, rfl⟩
      rw [unhide H1]
      rcases h2 with h2 | h2
      · go_wp2_with fail
        go_ret2
        refine ⟨by rw [hres.out]; rfl, ?_⟩
        first | exact hb1 | exact hb1.alloc hb1.size _
      · have h3 : ¬ n < 0 := by omega
        go_wp2_with fail
        go_ret2
        refine ⟨by rw [hres.out]; rfl, ?_⟩
        first | exact hb1 | exact hb1.alloc hb1.size _
    · by_cases h3 : r.size < 1 ∨ 32 < r.size
      · have hres : Hid (textV o n r es = .tuple #[.string ⟨#[]⟩, .int .i64 72]) := by unfold textV; rw [if_neg h1, if_neg h2, if_pos h3]; rfl
        have H1 := hide h1'; clear h1 h1' hv hT
        have h4 : 0 ≤ n := by omega
        have h5 : n ≤ 4611686018427387904 := by omega
        clear h2
        go_enter Tryz.func27, Tryz.ntmps27
        go_wp2_with fail
        refine (name_any _ _ (by simp only [maxLen]; omega)).mono ?_
        rintro e w1 ⟨rfl, rfl⟩
        rw [unhide H1]
        rcases h3 with h3 | h3
        · have h6 : (r.size : Int) < 1 := by omega
          go_wp2_with fail
          go_ret2
          refine ⟨by rw [hres.out]; rfl, ?_⟩
          first | exact hb1 | exact hb1.alloc hb1.size _
        · have h6 : ¬ (r.size : Int) < 1 := by omega
          have h7 : 32 < (r.size : Int) := by omega
          go_wp2_with fail
          go_ret2
          refine ⟨by rw [hres.out]; rfl, ?_⟩
          first | exact hb1 | exact hb1.alloc hb1.size _
      · refine (text_main o r n v es w ho hl hv h1' (by omega) (by omega) (by omega) (by omega) hT).mono ?_
        rintro e w' ⟨rfl, hb⟩
        exact ⟨by unfold textV; rw [if_neg h1, if_neg h2, if_neg h3], hb⟩
end Go.Proofs.YtphoflcilpopgaaGreatDoor

set_option linter.unusedVariables false
set_option linter.unusedSimpArgs false
namespace Go.Proofs.YtphoflcilpopgaaGreatDoor
open Go.RowKit Go.Lib
theorem numl_any (z : Nat) (w : World) (hz : z < 1000) : Calls Tryz.prog 8 #[.int .i64 (z : Int)] w fun e w' => e = .returned (.int .i64 (z : Int)) ∧ w = w' := by
  go_enter Tryz.func8, Tryz.ntmps8
  go_wp2
  go_ret
  exact ⟨rfl, rfl⟩
set_option maxRecDepth 100000 in
set_option maxHeartbeats 1000000 in
/-- Two lists that read alike are alike. -/
theorem texts_eq (a b : Value) (es : List ByteArray) (w : World) (hn : es.length ≤ 1099511627776) (ha : StrsAt w a es) (hb : StrsAt w b es) :
    Calls Tryz.prog 29 #[a, b] w fun e w' => e = .returned (.bool true) ∧ ∃ nd, w' = w.drewN nd := by
  obtain ⟨A, c, rfl, ha⟩ := ha
  obtain ⟨B, d, rfl, hb⟩ := hb
  have HA := hide ha; have HB := hide hb; clear ha hb
  go_enter Tryz.func29, Tryz.ntmps29
  go_wp2_with fail
  go_loopw [5] (fun i wr => ∃ k : Nat, i = .int .i64 k ∧ k ≤ es.length ∧ ∃ nd, Hid (wr = w.drewN nd)) (fun i _ => es.length - (RowKit.intOf i).toNat)
  case atStart => exact ⟨0, rfl, by omega, 0, Lib.hid rfl⟩
  case round =>
    obtain ⟨k, rfl, hk, nd, hw⟩ := hrel
    have hw' := hw.out
    subst hw'
    rcases Nat.lt_or_ge k es.length with hlt | hge
    · obtain ⟨p, rfl, hp⟩ := unhide HA k hlt
      obtain ⟨q, rfl, hq⟩ := unhide HB k hlt
      generalize es[k] = x at hp hq
      have hp' : (w.drewN nd).cell? (p.add k) = some (.string x) := hp
      have hq' : (w.drewN nd).cell? (q.add k) = some (.string x) := hq
      go_wp2_with fail
      go_quiet (fail)
      go_wp2_with fail
      refine ⟨⟨k + 1, by go_num, by omega, nd + nq, Lib.hid rfl⟩, by simp [RowKit.intOf]; omega⟩
    · go_wp2_with fail
      go_ret
      exact ⟨rfl, nd, rfl⟩
end Go.Proofs.YtphoflcilpopgaaGreatDoor

set_option linter.unusedVariables false
namespace Go.Proofs.YtphoflcilpopgaaGreatDoor
open Go.RowKit Go.Lib Go.Joins
theorem bulk_strs {H : Type} (S : Nat → ByteArray) (l : List Nat) : Rows.uptoBulkAll (l.map fun i => (DataW.lit (.string (S i).data.toList) : DataW H)) = (linesL (l.map S)).length := by
  induction l with
  | nil => rfl
  | cons i r ih =>
    simp only [List.map_cons, Rows.uptoBulkAll, Rows.uptoBulk, ih]
    simp [linesL]
    omega
set_option maxRecDepth 100000 in
theorem open_cp {H : Type} {enc : TypeId × Value → H} {w : World} {base : Nat} {sp : Nat → Bool} {held : Bool} {r : Reach} {b0 : Nat} {v : Value} {d : DataW H} {p : List MemPlace}
    (hv : Value.okWide Tryz.prog w r b0 30 v) (h : DataW.Trod enc Tryz.prog w base sp held 30 v d p) :
    ∃ (o : ByteArray) (n : Int) (rt : ByteArray) (x : Value) (es : List ByteArray), v = .agg #[.string o, .int .i64 n, .string rt, x] ∧ StrsAt w x es ∧ o.size + rt.size + (linesL es).length ≤ Rows.uptoBulk d := by
  obtain ⟨v0, v1, v2, v3, y0, y1, y2, y3, k, rfl, rfl, rfl, h0, h1, h2, h3⟩ := open_agg4 Tryz.underlying30 (by kernel_rfl) (by kernel_rfl) hv h
  obtain ⟨s0, e0, rfl, -⟩ := DataW.trod_string (ht := Tryz.underlying9) h0
  obtain ⟨s2, e2, rfl, -⟩ := DataW.trod_string (ht := Tryz.underlying9) h2
  obtain ⟨z, e1, rfl, -⟩ := DataW.trod_int Tryz.underlying3 h1
  simp at e0 e1 e2
  subst e0 e1 e2
  rcases Go.Deep.open_strs Tryz.underlying28 Tryz.underlying9 (by kernel_rfl) h3 with ⟨e3, rfl⟩ | ⟨a, len, cap, m, S, e3, _, hlc, _, hm, rfl, hc⟩
  · simp at e3
    subst e3
    refine ⟨s0, z, s2, _, [], rfl, ⟨none, 0, rfl, fun j hj => by simp at hj⟩, ?_⟩
    have z0 : s0.data.size = s0.size := rfl
    have z2 : s2.data.size = s2.size := rfl
    simp [Rows.uptoBulk, Rows.uptoBulkAll, linesL]
    omega
  · simp at e3
    subst e3
    have hlm : len ≤ m := by rw [hm]; split <;> omega
    refine ⟨s0, z, s2, _, (List.range len).map S, rfl, ⟨some a, cap, by simp, fun j hj => ⟨a, rfl, ?_⟩⟩, ?_⟩
    · simp at hj
      rw [(hc j (by omega)).1]
      simp
    · have z0 : s0.data.size = s0.size := rfl
      have z2 : s2.data.size = s2.size := rfl
      simp only [Rows.uptoBulk, Rows.uptoBulkAll, bulk_strs, Array.length_toList]
      omega
theorem utf8_extra : Go.Proofs.U8Extra Tryz.prog Tryz.lays260_ren := {
  n3 := by kernel_rfl
  n4 := by kernel_rfl
  y3 := by kernel_rfl
  y4 := by kernel_rfl
  c5 := by kernel_rfl
  c119 := by kernel_rfl
  c138 := by kernel_rfl }
theorem utf8_of {laid : List (String × DataW Unit)} {w : World} (h : laidMet Tryz.prog laid w) (m1 : ("unicode/utf8.first", Go.Lib.firstData) ∈ laid) (m2 : ("unicode/utf8.acceptRanges", Go.Lib.acceptData) ∈ laid) :
    Lib.Utf8Tabs 5 6 w := by
  obtain ⟨ps, h, _⟩ := h
  exact Go.Proofs.utf8Tabs_of_readsT (Go.Proofs.U8Types.of260 Tryz.lays260) utf8_extra (LaidVars_reads h _ _ m1) (LaidVars_reads h _ _ m2)
end Go.Proofs.YtphoflcilpopgaaGreatDoor

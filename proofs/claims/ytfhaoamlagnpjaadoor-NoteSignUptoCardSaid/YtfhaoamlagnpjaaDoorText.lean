/-
  CONTRACT of note.Text.
-/
import Derived.Test.YtfhaoamlagnpjaaDoorRows
import Derived.Test.YtfhaoamlagnpjaaDoorWd
import Derived.Test.YtfhaoamlagnpjaaDoorShelf
import Derived.Test.YtfhaoamlagnpjaaDoorName
import Derived.Test.YtfhaoamlagnpjaaDoorBuild
import Derived.Test.YtfhaoamlagnpjaaDoorDec
import Derived.Test.YtfhaoamlagnpjaaDoorB64
import Derived.Test.YtfhaoamlagnpjaaDoorWhole
import Derived.Test.YtfhaoamlagnpjaaDoorStrRow
set_option linter.unusedVariables false
set_option linter.unusedSimpArgs false
namespace Go.Proofs.YtfhaoamlagnpjaaDoor
open Go.RowKit Go.Lib
theorem builder_lt {T e : TypeId} {B b : Nat} {bs : List Value} {w : World} (h : Lib.IsBuilderF T e B b bs w) : b < w.heap.size := h.elim (fun x => x.lt) (fun x => x.lt)
def headB (o : ByteArray) (n : Int) (r : ByteArray) : ByteArray := o ++ ⟨#[10]⟩ ++ decS n ++ ⟨#[10]⟩ ++ b64S r ++ ⟨#[10]⟩
def linesL (es : List ByteArray) : List UInt8 := es.flatMap fun x => x.data.toList ++ [10]
theorem linesL_ge : ∀ es : List ByteArray, es.length ≤ (linesL es).length
  | [] => by simp [linesL]
  | x :: r => by
    have := linesL_ge r
    simp [linesL] at this ⊢
    omega
def lineOk (x : ByteArray) : Bool := decide (x.size ≠ 0) && wholeP false x 0
/-- What is answered where origin, size and root are good. -/
def textM (o : ByteArray) (n : Int) (r : ByteArray) (es : List ByteArray) : Value :=
  if es.all lineOk = true then .tuple #[.string ⟨((headB o n r).data.toList ++ linesL es).toArray⟩, .int .i64 0] else .tuple #[.string ⟨#[]⟩, .int .i64 43]
theorem textM_no {o : ByteArray} {n : Int} {r : ByteArray} {es : List ByteArray} {k : Nat} (h : k < es.length) (hx : lineOk es[k] = false) : textM o n r es = .tuple #[.string ⟨#[]⟩, .int .i64 43] := by
  have : ¬ es.all lineOk = true := fun ha => by
    rw [List.all_eq_true] at ha
    have := ha _ (List.getElem_mem h)
    rw [hx] at this
    cases this
  unfold textM
  rw [if_neg this]
theorem textM_yes {o : ByteArray} {n : Int} {r : ByteArray} {es : List ByteArray} (h : ∀ j (h : j < es.length), lineOk es[j] = true) : textM o n r es = .tuple #[.string ⟨((headB o n r).data.toList ++ linesL es).toArray⟩, .int .i64 0] := by
  have : es.all lineOk = true := by
    rw [List.all_eq_true]
    intro x hx
    obtain ⟨j, hj, rfl⟩ := List.mem_iff_getElem.1 hx
    exact h j hj
  unfold textM
  rw [if_pos this]
theorem linesL_take_succ (es : List ByteArray) (k : Nat) (h : k < es.length) : linesL (es.take (k + 1)) = linesL (es.take k) ++ (es[k].data.toList ++ [10]) := by
  unfold linesL
  rw [List.take_succ_eq_append_getElem h, List.flatMap_append]
  simp
theorem linesL_take_le (es : List ByteArray) (k : Nat) : (linesL (es.take k)).length ≤ (linesL es).length := by
  have h : linesL es = linesL (es.take k) ++ linesL (es.drop k) := by
    unfold linesL
    rw [← List.flatMap_append, List.take_append_drop]
  rw [h, List.length_append]
  omega
theorem linesL_at (es : List ByteArray) (k : Nat) (h : k < es.length) : es[k].size + 1 ≤ (linesL es).length := by
  have h1 := linesL_take_le es (k + 1)
  rw [linesL_take_succ es k h] at h1
  simp at h1
  have : es[k].data.size = es[k].size := rfl
  omega
set_option maxRecDepth 100000 in
set_option maxHeartbeats 4000000 in
theorem text_main (o r : ByteArray) (n : Int) (v : Value) (es : List ByteArray) (w : World) (ho : o.size ≤ 1099511627776) (hl : (linesL es).length ≤ 1099511627776) (hv : StrsAt w v es) (hno : nameOk o = true) (h0 : 0 ≤ n) (h1 : n ≤ 4611686018427387904) (hr1 : 1 ≤ r.size) (hr2 : r.size ≤ 32) (hT : Lib.Utf8Tabs 3 4 w) :
    Calls Tryd.prog 16 #[.agg #[.string o, .int .i64 n, .string r, v]] w fun e w' => e = .returned (textM o n r es) ∧ Below w.heap.size w w' := by
  have Hno := hide hno; clear hno
  have HT := hide hT; clear hT
  obtain ⟨A, c, rfl, hel⟩ := hv
  have hel' : ∀ j (h : j < es.length), ∃ a, A = some a ∧ (a.add j).block < w.heap.size ∧ w.cell? (a.add j) = some (.string es[j]) := fun j h => by
    obtain ⟨a, e, hc⟩ := hel j h
    exact ⟨a, e, World.block_lt_of_cell? w _ hc, hc⟩
  have HEL := hide hel'; clear hel hel'
  have hnes : es.length ≤ 1099511627776 := Nat.le_trans (linesL_ge es) hl
  have Hl := hide hl; clear hl
  have hd := fun w => dec_any n w (by omega) (by omega)
  have hb := fun w => b64_any r w (by omega)
  have HD := hide hd; have HB := hide hb; clear hd hb
  have hds : (decS n).size ≤ 20 := by
    have := digL_length 19 n.toNat (by omega) (by omega)
    show (decL n).toArray.size ≤ 20
    unfold decL
    rw [if_pos h0, List.size_toArray]
    omega
  have hbs := b64S_size r
  have hbs' : (b64S r).size ≤ 44 := by omega
  go_enter Tryd.func16, Tryd.ntmps16
  go_wp2_with fail
  refine (name_any _ _ (by simp only [maxLen]; omega)).mono ?_
  rintro e w1 ⟨rfl, rfl⟩
  rw [unhide Hno]
  go_wp2_with fail
  obtain ⟨D, HDe⟩ : ∃ D, Hid (decS n = D) := ⟨_, Lib.hid rfl⟩
  obtain ⟨E, HEe⟩ : ∃ E, Hid (b64S r = E) := ⟨_, Lib.hid rfl⟩
  rw [HDe.out] at HD hds
  rw [HEe.out] at HB hbs'
  have hB0 : Lib.IsBuilderF 77 5 (w.heap.size + 1) (w.heap.size + 1) [] ((w.alloc (.cells #[.string o, .int .i64 n, .string r, .slice A es.length c] 34)).alloc (.cells #[.pointer none, .slice none 0 0] 77)) := by
    have h := Lib.IsBuilderF.of (Lib.fresh_isBuilder 77 5 (w.alloc (.cells #[.string o, .int .i64 n, .string r, .slice A es.length c] 34)))
    simpa using h
  have hC0 : Blk ((w.alloc (.cells #[.string o, .int .i64 n, .string r, .slice A es.length c] 34)).alloc (.cells #[.pointer none, .slice none 0 0] 77)) w.heap.size 34 #[.string o, .int .i64 n, .string r, .slice A es.length c] := (Blk.new w _ _).alloc _
  have hw0 : Below w.heap.size w ((w.alloc (.cells #[.string o, .int .i64 n, .string r, .slice A es.length c] 34)).alloc (.cells #[.pointer none, .slice none 0 0] 77)) := ((Below.refl _ _).alloc (Nat.le_refl _) _).alloc (by simp) _
  have hsz0 : ((w.alloc (.cells #[.string o, .int .i64 n, .string r, .slice A es.length c] 34)).alloc (.cells #[.pointer none, .slice none 0 0] 77)).heap.size = w.heap.size + 2 := by simp
  generalize ((w.alloc (.cells #[.string o, .int .i64 n, .string r, .slice A es.length c] 34)).alloc (.cells #[.pointer none, .slice none 0 0] 77)) = w0 at *
  have k0 := hC0.cell 0
  have k1 := hC0.cell 1
  have k2 := hC0.cell 2
  simp only [List.getElem?_toArray, List.getElem?_cons_zero, List.getElem?_cons_succ] at k0 k1 k2
  have e10 : (⟨#[10]⟩ : ByteArray).size = 1 := rfl
  have x1 : ¬ (9223372036854775807 < o.size + 1) := by omega
  have x2 : ¬ (9223372036854775807 < o.size + 1 + D.size) := by omega
  have x3 : ¬ (9223372036854775807 < o.size + 1 + D.size + 1) := by omega
  have x4 : ¬ (9223372036854775807 < o.size + 1 + D.size + 1 + E.size) := by omega
  have x5 : ¬ (9223372036854775807 < o.size + 1 + D.size + 1 + E.size + 1) := by omega
  have H0 := hide (And.intro hB0 (And.intro hC0 (And.intro hw0 hsz0))); clear hB0 hC0 hw0 hsz0
  go_region_held3 (fun W => W.cell? ⟨w.heap.size, 0, none⟩ = some (.string o) ∧ W.cell? ⟨w.heap.size, 1, none⟩ = some (.int .i64 n) ∧ W.cell? ⟨w.heap.size, 2, none⟩ = some (.string r)) (refine ⟨?_, ?_, ?_⟩ <;> assumption) (first | (go_at_call 43; refine (unhide HD _).mono ?_; rintro e w1 ⟨rfl, hb1⟩; have hC1 : Blk w1 w.heap.size 34 #[.string o, .int .i64 n, .string r, .slice A es.length c] := (unhide H0).2.1.drew.below hb1 (unhide H0).2.1.lt; have k10 := hC1.cell 0; have k11 := hC1.cell 1; have k12 := hC1.cell 2; simp only [List.getElem?_toArray, List.getElem?_cons_zero, List.getElem?_cons_succ] at k10 k11 k12) | (go_at_call 44; refine (unhide HB _).mono ?_; rintro e w2 ⟨rfl, hb2⟩; have hC2 : Blk w2 w.heap.size 34 #[.string o, .int .i64 n, .string r, .slice A es.length c] := hC1.below hb2 hC1.lt; have k20 := hC2.cell 0; have k21 := hC2.cell 1; have k22 := hC2.cell 2; simp only [List.getElem?_toArray, List.getElem?_cons_zero, List.getElem?_cons_succ] at k20 k21 k22) | (go_at_call 42; have hB2 := builder_below (builder_below (builder_drew (unhide H0).1) hb1) hb2; have hsz2 : w.heap.size + 1 ≤ w2.heap.size := by { have h1 := hb1.size; have h2 := hb2.size; have h3 := (unhide H0).2.2.2; simp at h1; omega }; refine (writeString_any _ _ [] _ w2 hB2 (by simp only [ByteArray.size_append, e10, List.length_nil]; omega) hsz2).mono ?_; rintro e w3 ⟨rfl, hB3, hb3, ho3⟩; have hC3 : Blk w3 w.heap.size 34 #[.string o, .int .i64 n, .string r, .slice A es.length c] := hC2.below hb3 (Nat.lt_succ_self _); have k30 := hC3.cell 0; have k31 := hC3.cell 1; have k32 := hC3.cell 2; simp only [List.getElem?_toArray, List.getElem?_cons_zero, List.getElem?_cons_succ] at k30 k31 k32))
  have s0 : w.heap.size ≤ w0.drew.heap.size := by have h := (unhide H0).2.2.2; show w.heap.size ≤ w0.heap.size; omega
  have hw1 : Below w.heap.size w w1 := (unhide H0).2.2.1.drew.trans (hb1.mono s0)
  have hw2 : Below w.heap.size w w2 := hw1.trans (hb2.mono hw1.size)
  have hw3 : Below w.heap.size w w3 := hw2.trans (hb3.mono (by omega))
  clear hw1 hw2 s0 e10
  rw [List.nil_append, strCells_bytes] at hB3
  have H3 := hide (And.intro hB3 (And.intro hC3 (And.intro hw3 hsz2))); clear hB3 hC3 hw3 hsz2 hB2 ho3 hb3 hb2 hb1 hC2 hC1 k0 k1 k2 k10 k11 k12 k20 k21 k22 k30 k31 k32
  have k33 := (unhide H3).2.1.cell 3
  simp only [List.getElem?_toArray, List.getElem?_cons_zero, List.getElem?_cons_succ] at k33
  go_wp2_with fail
  rename_i a1 a2 a3 a4 aK aQ
  have HF : Hid ((o ++ ⟨#[10]⟩ ++ D ++ ⟨#[10]⟩ ++ E ++ ⟨#[10]⟩ : ByteArray) = headB o n r) := by unfold headB; rw [HDe.out, HEe.out]; rfl
  have hF2 : (headB o n r).data.toList.length ≤ 2199023255552 := by
    rw [Array.length_toList]
    show (headB o n r).size ≤ _
    rw [← HF.out]
    simp only [ByteArray.size_append, show (⟨#[10]⟩ : ByteArray).size = 1 from rfl]
    omega
  have HF2 := hide hF2
  clear hF2 a1 a2 a3 a4 x1 x2 x3 x4 x5 h0 h1 hr1 hr2 k33 hds hbs hbs' H0
  have H4 : Hid (BuilderAtF 77 5 (w.heap.size + 1) (w.heap.size + 1) (.pointer (some ⟨w.heap.size + 1, 0, none⟩)) (Lib.byteCells ((headB o n r).data.toList ++ linesL (es.take 0))) w3 ∧ Below w.heap.size w w3) := by
    have h := (unhide H3).1
    rw [HF.out] at h
    refine ⟨?_, (unhide H3).2.2.1⟩
    rw [show linesL (es.take 0) = [] from rfl, List.append_nil]
    exact h
  clear H3
  go_loopw [49] (fun i wr => ∃ k : Nat, k ≤ es.length ∧ i = .int .i64 k ∧ Hid (∀ j (h : j < es.length), j < k → lineOk es[j] = true) ∧ BuilderAtF 77 5 (w.heap.size + 1) (w.heap.size + 1) (.pointer (some ⟨w.heap.size + 1, 0, none⟩)) (Lib.byteCells ((headB o n r).data.toList ++ linesL (es.take k))) wr ∧ Below w.heap.size w wr) (fun i _ => es.length - (RowKit.intOf i).toNat)
  case atStart => exact ⟨0, by omega, rfl, Lib.hid (fun j _ h => by omega), (unhide H4).1, (unhide H4).2⟩
  case round =>
    clear H4
    obtain ⟨k, hk, rfl, hok, hB, hb⟩ := hrel
    have HX := hide (And.intro hok (And.intro hB hb)); clear hok hB hb
    rcases Nat.lt_or_ge k es.length with hlt | hge
    · obtain ⟨a, rfl, hab, hac⟩ := unhide HEL k hlt
      have hcx : wr.cell? (a.add k) = some (.string es[k]) := ((unhide HX).2.2.cell hab).trans hac
      have hxs : es[k].size ≤ 1099511627776 := by have := linesL_at es k hlt; have := unhide Hl; omega
      have hno : Hid (∀ x, es[k] = x → lineOk x = false → textM o n r es = .tuple #[.string ⟨#[]⟩, .int .i64 43]) := fun x e h => textM_no hlt (by rw [e]; exact h)
      generalize hxe : es[k] = x at hcx hxs
      have HXE := Lib.hid hxe
      clear hab hac hxe
      have hwh := fun W (hT : Lib.Utf8Tabs 3 4 W) => whole_any false x W (by simp only [maxLen]; omega) hT
      have HWH := hide hwh; clear hwh
      by_cases hx0 : x.toList = []
      · have hres : Hid (textM o n r es = .tuple #[.string ⟨#[]⟩, .int .i64 43]) := hno.out x HXE.out (by
          rw [ByteArray.toList_eq] at hx0
          have : x.size = 0 := by have h := congrArg List.length hx0; rw [Array.length_toList] at h; exact h
          simp [lineOk, this])
        go_wp2_with fail
        go_ret2
        exact ⟨by rw [hres.out]; rfl, (unhide HX).2.2⟩
      · have hsz : Hid (x.size ≠ 0) := fun h => hx0 (by
          rw [ByteArray.toList_eq]
          exact List.eq_nil_of_length_eq_zero (by rw [Array.length_toList]; exact h))
        go_wp2_with fail
        refine (unhide HWH _ (Tabs.below (unhide HT) (unhide HX).2.2 (Tabs.lt3 (unhide HT)) (Tabs.lt4 (unhide HT)))).mono ?_
        rintro e w4 ⟨rfl, hb4⟩
        have hb4' := (unhide HX).2.2.trans (hb4.mono (unhide HX).2.2.size)
        have hB4 := builder_below (.inr (unhide HX).2.1) hb4
        have H4 := hide (And.intro hb4' hB4); clear hb4 hb4' hB4
        cases hwp : wholeP false x 0 with
        | false =>
          have hres : Hid (textM o n r es = .tuple #[.string ⟨#[]⟩, .int .i64 43]) := hno.out x HXE.out (by simp [lineOk, hwp])
          go_wp2_with fail
          go_ret2
          exact ⟨by rw [hres.out]; rfl, (unhide H4).1⟩
        | true =>
          have hyes : Hid (lineOk x = true) := by simp [Hid, lineOk, hwp, hsz.out]
          have y1 : ¬ (9223372036854775807 < x.size + 1) := by omega
          have hie : x.toList.isEmpty = false := by simpa using hx0
          go_wp2_with fail
          have hlen : (Lib.byteCells ((headB o n r).data.toList ++ linesL (es.take k))).length + (x ++ ⟨#[10]⟩ : ByteArray).size ≤ 140737488355328 := by
            have h1 := linesL_take_le es k
            have h2 := unhide Hl
            have h3 := unhide HF2
            rw [Lib.byteCells_length, List.length_append, ByteArray.size_append, show (⟨#[10]⟩ : ByteArray).size = 1 from rfl]
            omega
          have hlt4 := builder_lt (unhide H4).2
          have hws := writeString_any (w.heap.size + 1) (w.heap.size + 1) (Lib.byteCells ((headB o n r).data.toList ++ linesL (es.take k))) (x ++ ⟨#[10]⟩) w4 (unhide H4).2 hlen (Nat.le_of_lt hlt4)
          refine hws.mono ?_
          rintro e w5 ⟨rfl, hB5, hb5, ho5⟩
          have hb5' := (unhide H4).1.trans (hb5.mono (Nat.le_succ _))
          rw [strCells_bytes, ← Lib.byteCells_append] at hB5
          have H5 := hide (And.intro hB5 hb5'); clear hB5 hb5 hb5' ho5
          go_wp2_with fail
          go_roundw
          case rel =>
            refine ⟨k + 1, by omega, by go_num, Lib.hid (fun j hj hjk => ?_), ?_, (unhide H5).2⟩
            · rcases Nat.lt_succ_iff_lt_or_eq.1 hjk with h' | rfl
              · exact (unhide HX).1.out j hj h'
              · rw [HXE.out]; exact hyes.out
            · rw [linesL_take_succ es k hlt, HXE.out, ← List.append_assoc]
              have h := (unhide H5).1
              simpa using h
          case measure => simp [RowKit.intOf]; omega
    · have hke : k = es.length := by omega
      have hB := (unhide HX).2.1
      rw [List.take_of_length_le (by omega)] at hB
      have hres : Hid (textM o n r es = .tuple #[.string ⟨((headB o n r).data.toList ++ linesL es).toArray⟩, .int .i64 0]) := textM_yes (fun j h => (unhide HX).1.out j h (by omega))
      have hst := Tryd.Builder_String_any_k (w.heap.size + 1) (w.heap.size + 1) _ wr (.inr hB) (by have := builder_lt (.inr hB); omega)
      have HST := hide hst; clear hst hB
      go_wp2_with fail
      refine (unhide HST).mono ?_
      rintro e w6 ⟨rfl, -, hb6, -⟩
      have hb6' := (unhide HX).2.2.trans (hb6.mono (Nat.le_succ _))
      go_wp2_with fail
      go_ret2
      exact ⟨by rw [hres.out]; rfl, hb6'⟩
end Go.Proofs.YtfhaoamlagnpjaaDoor

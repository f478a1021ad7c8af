/-
  CONTRACT of peer.Ask.
-/
import Derived.Test.YtphjpdnheaeghaaDoorRows
import Derived.Test.YtphjpdnheaeghaaDoorWd
import Derived.Test.YtphjpdnheaeghaaDoorShelf
import Derived.Test.YtphjpdnheaeghaaDoorBuild
import Derived.Test.YtphjpdnheaeghaaDoorDec
import Derived.Test.YtphjpdnheaeghaaDoorB64
import Derived.Test.YtphjpdnheaeghaaDoorStrRow
import Derived.Test.YtphjpdnheaeghaaDoorPeerP
import Derived.Test.YtphjpdnheaeghaaDoorRPAsk
set_option linter.unusedVariables false
set_option linter.unusedSimpArgs false
namespace Go.Proofs.YtphjpdnheaeghaaDoor
open Go.RowKit Go.Lib
theorem builder_ltQ {T e : TypeId} {B b : Nat} {bs : List Value} {w : World} (h : Lib.IsBuilderF T e B b bs w) : b < w.heap.size := h.elim (fun x => x.lt) (fun x => x.lt)
/-- The text's bytes in the builder. -/
abbrev bcP (t : ByteArray) : List Value := Lib.byteCells t.data.toList
theorem bcP_app (a b : ByteArray) : bcP a ++ Lib.strCells b = bcP (a ++ b) := by
  show Lib.byteCells a.data.toList ++ _ = Lib.byteCells (a ++ b).data.toList
  rw [strCells_bytes, ← Lib.byteCells_append, ByteArray.data_append, Array.toList_append]
theorem bcP_len (a : ByteArray) : (bcP a).length = a.size := by rw [Lib.byteCells_length]; exact Array.length_toList
/-- The request's box and the builder. -/
structure PaX (w W : World) (old : Int) (vp : Value) (nt : ByteArray) (t : ByteArray) : Prop where
  s : Blk W w.heap.size 24 #[.int .i64 old, vp, .string nt]
  u : Lib.BuilderAtF 40 5 (w.heap.size + 1) (w.heap.size + 1) (.pointer (some ⟨w.heap.size + 1, 0, none⟩)) (bcP t) W
  b : Below w.heap.size w W
set_option maxRecDepth 100000 in
set_option maxHeartbeats 4000000 in
theorem pask_any (r : RqR) (vp : Value) (w : World) (hS : StrsAt w vp r.pf) (hin : In64P r.old) (hn : r.pf.length ≤ 1099511627776) (hnt : r.nt.size ≤ 1099511627776) :
    Calls Tryd.prog 5 #[.agg #[.int .i64 r.old, vp, .string r.nt]] w fun e w' => e = .returned (askV r) ∧ Below w.heap.size w w' := by
  have e10 : (⟨#[10]⟩ : ByteArray).size = 1 := rfl
  have e4 : (⟨#[111, 108, 100, 32]⟩ : ByteArray).size = 4 := rfl
  have hds : (decS r.old).size ≤ 20 := dec_size20 hin.1 hin.2
  have hps := fun l h1 h2 => preT_size r.old l h1 h2
  obtain ⟨A, c, rfl, -⟩ := id hS
  have hb0 : Below w.heap.size w (w.alloc (.cells #[.int .i64 r.old, .slice A r.pf.length c, .string r.nt] 24)) := (Below.refl _ _).alloc (Nat.le_refl _) _
  have hB := Blk.new w 24 #[.int .i64 r.old, .slice A r.pf.length c, .string r.nt]
  have c0 := hB.cell 0; have c1 := hB.cell 1; have c2 := hB.cell 2
  simp only [List.getElem?_toArray, List.getElem?_cons_zero, List.getElem?_cons_succ] at c0 c1 c2
  have h10 := fun h => askV_no (askE_rng (r := r) h) (by decide)
  have h83 := fun h1 h2 h3 => askV_no (askE_many (r := r) h1 h2 h3) (by decide)
  have h72 := fun (h1 : 0 ≤ r.old) h2 h3 (j : Nat) (hj : j < r.pf.length) h4 => askV_no (askE_bad (r := r) h1 h2 h3 hj h4) (by decide)
  have hok := fun h => askV_ok (r := r) (askE_ok.2 h)
  have hask := preT_ask r
  have hpn := preT_nil r.old
  unfold AskOk at hok
  obtain ⟨old, pf, nt⟩ := r
  simp only at *
  have hd := dec_any old
  have HB0 := hide (And.intro hB hb0); have HD := hide hd; have HS := hide hS; have HPS := hide hps; have HIN := hide hin
  have H10 := hide h10; have H83 := hide h83; have H72 := hide h72; have HOK := hide hok; have HASK := Lib.hid hask; have HPN := Lib.hid hpn
  clear hb0 hB hd hS hps h10 h83 h72 hok hask hin hpn
  generalize askV ⟨old, pf, nt⟩ = V at *
  go_enter Tryd.func5, Tryd.ntmps5
  by_cases ho1 : old < 0
  · have hr := Lib.hid ((unhide H10) (.inl ho1))
    go_wp2_with fail
    go_ret2
    exact ⟨by rw [hr.out]; rfl, (unhide HB0).2⟩
  by_cases ho2 : 4611686018427387904 < old
  · have hr := Lib.hid ((unhide H10) (.inr ho2))
    go_wp2_with fail
    go_ret2
    exact ⟨by rw [hr.out]; rfl, (unhide HB0).2⟩
  by_cases ho3 : 63 < pf.length
  · have hr := Lib.hid ((unhide H83) (by omega) (by omega) ho3)
    have t3 : (63 : Int) < (pf.length : Int) := by omega
    go_wp2_with fail
    go_ret2
    exact ⟨by rw [hr.out]; rfl, (unhide HB0).2⟩
  have t3 : ¬ (63 : Int) < (pf.length : Int) := by omega
  have y1 : ¬ 9223372036854775807 < 4 + (decS old).size := by omega
  have y2 : ¬ 9223372036854775807 < 4 + (decS old).size + 1 := by omega
  have hb1 : Lib.IsBuilderF 40 5 (w.heap.size + 1) (w.heap.size + 1) [] ((w.alloc (.cells #[.int .i64 old, .slice A pf.length c, .string nt] 24)).alloc (.cells #[.pointer none, .slice none 0 0] 40)) := by
    have h := Lib.IsBuilderF.of (Lib.fresh_isBuilder 40 5 (w.alloc (.cells #[.int .i64 old, .slice A pf.length c, .string nt] 24)))
    simpa using h
  have hC1 := (unhide HB0).1.alloc (.cells #[.pointer none, .slice none 0 0] 40)
  have hw1 := (unhide HB0).2.alloc (by simp) (.cells #[.pointer none, .slice none 0 0] 40)
  have d0 := hC1.cell 0; have d1 := hC1.cell 1; have d2 := hC1.cell 2
  simp only [List.getElem?_toArray, List.getElem?_cons_zero, List.getElem?_cons_succ] at d0 d1 d2
  have hz1 : w.heap.size + 2 = ((w.alloc (.cells #[.int .i64 old, .slice A pf.length c, .string nt] 24)).alloc (.cells #[.pointer none, .slice none 0 0] 40)).heap.size := by simp
  have H1 := hide (And.intro hb1 (And.intro hC1 (And.intro hw1 hz1))); clear hb1 hC1 hw1 hz1
  go_wp2_with fail
  refine ((unhide HD) _ (unhide HIN).1 (unhide HIN).2).mono ?_
  rintro e1 w1 ⟨rfl, hb1⟩
  clear HD d0 d1 d2
  have hB1 := builder_below (unhide H1).1 hb1
  have hC1 := (unhide H1).2.1.below hb1 (unhide H1).2.1.lt
  have hw1 := (unhide H1).2.2.1.trans (hb1.mono (unhide H1).2.2.1.size)
  have hz1 : w.heap.size + 1 ≤ w1.heap.size := Nat.le_of_lt (builder_ltQ hB1)
  have hpre := HPN.out
  have d0 := hC1.cell 0; have d1 := hC1.cell 1; have d2 := hC1.cell 2
  simp only [List.getElem?_toArray, List.getElem?_cons_zero, List.getElem?_cons_succ] at d0 d1 d2
  have HB1 := hide (And.intro hB1 (And.intro hC1 (And.intro hw1 hz1)))
  have hpz : (preT old []).size ≤ 64 := by rw [hpre]; simp only [ByteArray.size_append, e10, e4]; omega
  clear hB1 hC1 hw1 hz1 hb1 H1 HB0 c0 c1 c2
  rw [HPN.out] at hpz
  have HPZ := hide hpz
  clear hpz hpre
  go_wp2_with fail
  refine (writeString_any _ _ [] _ w1 (unhide HB1).1 (by have := unhide HPZ; simp only [List.length_nil]; omega) (unhide HB1).2.2.2).mono ?_
  rintro e2 w2 ⟨rfl, hB2, hb2, -⟩
  rw [← HPN.out] at hB2
  have hX2 : PaX w w2 old (.slice A pf.length c) nt (preT old (pf.take 0)) := ⟨(unhide HB1).2.1.below hb2 (Nat.lt_succ_self _), by rw [List.take_zero]; simpa [strCells_bytes] using hB2, (unhide HB1).2.2.1.trans (hb2.mono (Nat.le_succ _))⟩
  have d0 := hX2.s.cell 0; have d1 := hX2.s.cell 1; have d2 := hX2.s.cell 2
  simp only [List.getElem?_toArray, List.getElem?_cons_zero, List.getElem?_cons_succ] at d0 d1 d2
  have HX2 := hide hX2
  clear hX2 hB2 hb2 HB1 HPZ y1 y2 HPN
  go_wp2_with fail
  generalize decS old = D at *
  rename_i a1 a2 a3 aK aQ
  clear d0 d1 d2
  go_loopw [28] (fun i W => ∃ j : Nat, i = .int .i64 (j : Int) ∧ j ≤ pf.length ∧ Hid (∀ q (h : q < pf.length), q < j → 1 ≤ pf[q].size ∧ pf[q].size ≤ 32) ∧ PaX w W old (.slice A pf.length c) nt (preT old (pf.take j))) (fun i _ => pf.length - (RowKit.intOf i).toNat)
  case atStart => exact ⟨0, rfl, Nat.zero_le _, Lib.hid (fun q h h2 => absurd h2 (by omega)), unhide HX2⟩
  case round =>
    obtain ⟨j, rfl, hj, hgood, hX⟩ := hrel
    clear HX2
    have t0 : (0 : Int) ≤ (j : Int) := by omega
    have hpt : (preT old (pf.take j)).size ≤ 3000 + D.size := (unhide HPS) _ (fun x hx => by
      obtain ⟨q, hq, rfl⟩ := List.mem_iff_getElem.1 hx
      rw [List.length_take] at hq
      rw [List.getElem_take]
      exact (hgood.out q (by omega) (by omega)).2) (by rw [List.length_take]; omega)
    rcases Nat.lt_or_ge j pf.length with hlt | hge
    · have t1 : (j : Int) < (pf.length : Int) := by omega
      have qb : j ≤ 63 := by omega
      obtain ⟨a, rfl, ca⟩ := strsP_at ((unhide HS).below hX.b) j hlt
      have h72 := fun h4 => (unhide H72) (by omega) (by omega) (by omega) j hlt h4
      have hnx : Hid (preT old (pf.take (j + 1)) = preT old (pf.take j) ++ (b64S pf[j] ++ ⟨#[10]⟩)) := Lib.hid (by rw [List.take_succ_eq_append_getElem hlt, preT_snoc, ByteArray.append_assoc])
      have hgd : Hid ((1 ≤ pf[j].size ∧ pf[j].size ≤ 32) → ∀ q (h : q < pf.length), q < j + 1 → 1 ≤ pf[q].size ∧ pf[q].size ≤ 32) := Lib.hid (fun h q hq h2 => by
        rcases Nat.lt_succ_iff_lt_or_eq.1 h2 with h' | rfl
        · exact hgood.out q hq h'
        · exact h)
      have hbs := b64S_size pf[j]
      generalize pf[j] = x at *
      have H72b := hide h72; clear h72
      have HX := hide hX; clear hX
      by_cases x1 : x.size < 1
      · have hr := Lib.hid ((unhide H72b) (by omega))
        have s1 : (x.size : Int) < 1 := by omega
        clear hbs
        go_wp2_with fail
        go_ret2
        exact ⟨by rw [hr.out]; rfl, (unhide HX).b⟩
      · by_cases x2 : 32 < x.size
        · have hr := Lib.hid ((unhide H72b) (by omega))
          have s1 : ¬ (x.size : Int) < 1 := by omega
          have s2 : (32 : Int) < (x.size : Int) := by omega
          clear hbs
          go_wp2_with fail
          go_ret2
          exact ⟨by rw [hr.out]; rfl, (unhide HX).b⟩
        · have s1 : ¬ (x.size : Int) < 1 := by omega
          have s2 : ¬ (32 : Int) < (x.size : Int) := by omega
          have hb := b64_any x wr (by omega)
          have HB64 := hide hb
          have y4 : ¬ 9223372036854775807 < (b64S x).size + 1 := by omega
          have hg2 := Lib.hid (hgd.out ⟨by omega, by omega⟩)
          have hbs2 : Hid ((b64S x).size ≤ 44) := Lib.hid (by omega)
          have hpt2 := Lib.hid hpt
          generalize b64S x = X at *
          generalize preT old (pf.take j) = P0 at *
          clear hb hbs hpt hgd
          go_wp2_with fail
          refine (unhide HB64).mono ?_
          rintro e2 w2 ⟨rfl, hb2⟩
          have hB2 := builder_below (.inr (unhide HX).u) hb2
          have hs2 := (unhide HX).s.below hb2 (unhide HX).s.lt
          have hw2 := (unhide HX).b.trans (hb2.mono (unhide HX).b.size)
          have HX2 := hide (And.intro hB2 (And.intro hs2 hw2))
          clear hB2 hs2 hw2 hb2 HX HB64
          go_wp2_with fail
          refine (writeString_any _ _ (bcP P0) _ w2 (unhide HX2).1 (by have := hbs2.out; have := hpt2.out; rw [bcP_len, ByteArray.size_append, e10]; omega) (Nat.le_of_lt (builder_ltQ (unhide HX2).1))).mono ?_
          rintro e3 w3 ⟨rfl, hB3, hb3, -⟩
          rw [bcP_app, ← hnx.out] at hB3
          have hX3 : PaX w w3 old (.slice (some a) pf.length c) nt (preT old (pf.take (j + 1))) := ⟨(unhide HX2).2.1.below hb3 (Nat.lt_succ_self _), hB3, (unhide HX2).2.2.trans (hb3.mono (Nat.le_succ _))⟩
          have HX3 := hide hX3
          clear hX3 hB3 hb3 HX2
          go_wp2_with fail
          exact ⟨⟨j + 1, by go_num, by omega, hg2, unhide HX3⟩, by simp [RowKit.intOf]; omega⟩
    · have t1 : ¬ (j : Int) < (pf.length : Int) := by omega
      have hr := Lib.hid ((unhide HOK) ⟨by omega, by omega, by omega, fun h hh => by
        obtain ⟨q, hq, rfl⟩ := List.mem_iff_getElem.1 hh
        exact hgood.out q hq (by omega)⟩)
      rw [List.take_of_length_le hge] at hpt hX
      have hask := HASK
      generalize preT old pf = P0 at *
      have y5 : ¬ 9223372036854775807 < 1 + nt.size := by omega
      have d2 := hX.s.cell 2
      simp only [List.getElem?_toArray, List.getElem?_cons_zero, List.getElem?_cons_succ] at d2
      have hpt2 := Lib.hid hpt
      have HX := hide hX
      clear hpt hX
      go_wp2_with fail
      refine (writeString_any _ _ (bcP P0) _ wr (.inr (unhide HX).u) (by have := hpt2.out; rw [bcP_len, ByteArray.size_append, e10]; omega) (Nat.le_of_lt (builder_ltQ (.inr (unhide HX).u)))).mono ?_
      rintro e3 w3 ⟨rfl, hB3, hb3, -⟩
      rw [bcP_app, ← ByteArray.append_assoc, hask.out] at hB3
      have hw3 := (unhide HX).b.trans (hb3.mono (Nat.le_succ _))
      have hst := Tryd.Builder_String_any_k (w.heap.size + 1) (w.heap.size + 1) _ w3 (.inr hB3) (Nat.le_of_lt (builder_ltQ (.inr hB3)))
      have HST := hide (And.intro hst hw3)
      clear hst hw3 hB3 hb3 HX d2
      go_wp2_with fail
      refine (unhide HST).1.mono ?_
      rintro e4 w4 ⟨rfl, -, hb4, -⟩
      have hw4 := Lib.hid ((unhide HST).2.trans (hb4.mono (Nat.le_succ _)))
      clear hb4 HST
      go_wp2_with fail
      go_ret2
      exact ⟨by rw [hr.out]; rfl, hw4.out⟩
end Go.Proofs.YtphjpdnheaeghaaDoor

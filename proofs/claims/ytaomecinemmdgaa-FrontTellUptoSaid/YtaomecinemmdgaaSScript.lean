/-
  CONTRACT of play.Text: the script of a list of steps.
-/
import Derived.Test.YtaomecinemmdgaaRows
import Derived.Deep.RegionHeld3
import Derived.Test.YtaomecinemmdgaaGBase
import Derived.Test.YtaomecinemmdgaaSRScript
import Derived.Test.YtaomecinemmdgaaSPlayJ
import Derived.Test.YtaomecinemmdgaaGTx
import Derived.Test.YtaomecinemmdgaaSWords
set_option linter.unusedVariables false
set_option linter.unusedSimpArgs false
namespace Go.Proofs.Ytaomecinemmdgaa
open Go.RowKit Go.Lib
theorem spaced_len : ∀ l : List ByteArray, l.length ≤ (spaced l).length
  | [] => by simp
  | x :: r => by
    have := spaced_len r
    have h : spaced (x :: r) = (32 :: x.data.toList) ++ spaced r := by unfold spaced; rw [List.flatMap_cons]
    rw [h, List.length_append, List.length_cons, List.length_cons]; omega
theorem joinSp_len (l : List ByteArray) : l.length ≤ (joinSp l).length + 1 := by
  cases l with
  | nil => simp
  | cons x r => rw [joinSp_cons, List.length_append, List.length_cons]; have := spaced_len r; omega
theorem builder_drewN {T e : TypeId} {B b : Nat} {bs : List Value} {w : World} (h : IsBuilderF T e B b bs w) (n : Nat) : IsBuilderF T e B b bs (w.drewN n) := h
theorem scriptB_size (l : List StepR) : (scriptB l).size = (scriptL l).length := by show ((scriptL l).toArray).size = _; rw [List.size_toArray]
set_option maxRecDepth 100000 in
set_option maxHeartbeats 4000000 in
theorem script_any (v : Value) (l : List StepR) (w : World) (hV : StepsAt w v l) (hok : ∀ s ∈ l, StepOk s ∧ s.ns.length ≤ 1073741824) (hz : (scriptL l).length ≤ 1099511627776) (hn : l.length ≤ 1099511627776) :
    Calls Try.prog 8 #[v] w fun e' w' => e' = .returned (.string (scriptB l)) ∧ Below w.heap.size w w' := by
  obtain ⟨A, cap, rfl, hel⟩ := hV
  have HEL := hide hel; have HOK := hide hok; clear hel hok
  go_enter Try.func8, Try.ntmps8
  go_wp2_with fail
  have hB0 : IsBuilderF 58 5 w.heap.size w.heap.size (Lib.byteCells (scriptL (l.take 0))) (w.alloc (.cells #[.pointer none, .slice none 0 0] 58)) := Lib.IsBuilderF.of (Lib.fresh_isBuilder 58 5 w)
  have hb0 : Below w.heap.size w (w.alloc (.cells #[.pointer none, .slice none 0 0] 58)) := (Below.refl _ _).alloc (Nat.le_refl _) _
  have H0 := hide (And.intro hB0 hb0); clear hB0 hb0
  generalize w.alloc (.cells #[.pointer none, .slice none 0 0] 58) = w0 at *
  generalize hgb : w.heap.size = gb at *
  go_loopw [8] (fun i W => ∃ j : Nat, j ≤ l.length ∧ i = .int .i64 (j : Int) ∧ IsBuilderF 58 5 gb gb (Lib.byteCells (scriptL (l.take j))) W ∧ Below gb w W) (fun i _ => l.length - (RowKit.intOf i).toNat)
  case atStart => exact ⟨0, by omega, rfl, (unhide H0).1, (unhide H0).2⟩
  case round =>
    clear H0
    obtain ⟨j, hj, rfl, hB, hb⟩ := hrel
    rcases Nat.lt_or_ge j l.length with hlt | hge
    · have t1 : (j : Int) < (l.length : Int) := by omega
      have t0 : (0 : Int) ≤ (j : Int) := by omega
      obtain ⟨q, rfl, hst⟩ := unhide HEL j hlt
      have hso := unhide HOK _ (List.getElem_mem hlt)
      have hnx := Lib.hid (scriptL_take l j hlt)
      have hsz : Hid ((scriptL (l.take j)).length + (lineP l[j]).length ≤ 1099511627776) := Lib.hid (by
        have h1 := scriptL_le l (j + 1)
        rw [scriptL_take l j hlt, List.length_append] at h1
        omega)
      obtain ⟨T, hT⟩ : ∃ T, Hid (scriptL (l.take j) = T) := ⟨_, Lib.hid rfl⟩
      rw [hT.out] at hnx hsz hB
      generalize l[j] = s at *
      obtain ⟨kd, o, ns, ss⟩ := s
      obtain ⟨vn, vs, a, b, c, d, e, f, ho, p0, p1, p2, p3, p4, p5, p6, p7, p8, hI, hS⟩ := hst
      simp only at ho p0 hI hS
      subst ho
      subst hgb
      have hbl := World.block_lt_of_cell? w _ p0
      have c0 := (hb.cell hbl).trans p0
      have c1 := (hb.cell (p := ⟨(q.add (j * 9)).block, (q.add (j * 9)).off + 1, none⟩) hbl).trans p1
      have c2 := (hb.cell (p := ⟨(q.add (j * 9)).block, (q.add (j * 9)).off + 2, none⟩) hbl).trans p2
      have c3 := (hb.cell (p := ⟨(q.add (j * 9)).block, (q.add (j * 9)).off + 3, none⟩) hbl).trans p3
      have c4 := (hb.cell (p := ⟨(q.add (j * 9)).block, (q.add (j * 9)).off + 4, none⟩) hbl).trans p4
      have c5 := (hb.cell (p := ⟨(q.add (j * 9)).block, (q.add (j * 9)).off + 5, none⟩) hbl).trans p5
      have c6 := (hb.cell (p := ⟨(q.add (j * 9)).block, (q.add (j * 9)).off + 6, none⟩) hbl).trans p6
      have c7 := (hb.cell (p := ⟨(q.add (j * 9)).block, (q.add (j * 9)).off + 7, none⟩) hbl).trans p7
      have c8 := (hb.cell (p := ⟨(q.add (j * 9)).block, (q.add (j * 9)).off + 8, none⟩) hbl).trans p8
      have hI' := hI.below hb; have hS' := hS.below hb
      obtain ⟨An, cn, rfl, -⟩ := id hI
      obtain ⟨As, cs, rfl, -⟩ := id hS
      have HX := hide (And.intro hB (And.intro hb (And.intro hI' hS')))
      clear p0 p1 p2 p3 p4 p5 p6 p7 p8 hI hS hB hb hI' hS'
      go_upto_region 5 with fail
      have hA0 := Blk.new wr 52 #[.int .i64 kd, .slice An ns.length cn, .slice As ss.length cs, .int .i64 a, .int .i64 b, .int .i64 c, .int .i64 d, .int .i64 e, .int .i64 f]
      have hbA : Below wr.heap.size wr (wr.alloc (.cells #[.int .i64 kd, .slice An ns.length cn, .slice As ss.length cs, .int .i64 a, .int .i64 b, .int .i64 c, .int .i64 d, .int .i64 e, .int .i64 f] 52)) := (Below.refl _ _).alloc (Nat.le_refl _) _
      have HA := hide (And.intro hA0 (And.intro (builder_below (unhide HX).1 hbA) (And.intro ((unhide HX).2.1.trans (hbA.mono (unhide HX).2.1.size)) (And.intro ((unhide HX).2.2.1.below hbA) ((unhide HX).2.2.2.below hbA)))))
      clear hA0 hbA HX c0 c1 c2 c3 c4 c5 c6 c7 c8
      generalize (wr.alloc (.cells #[.int .i64 kd, .slice An ns.length cn, .slice As ss.length cs, .int .i64 a, .int .i64 b, .int .i64 c, .int .i64 d, .int .i64 e, .int .i64 f] 52)) = wa at *
      generalize wr.heap.size = gx at *
      have k0 := (unhide HA).1.cell 0
      simp only [List.getElem?_toArray, List.getElem?_cons_zero, List.getElem?_cons_succ] at k0
      by_cases hk1 : 1 ≤ kd
      · have hA := (unhide HA).1
        by_cases hk2 : kd ≤ 34
        · have hk3 : kd < 35 := by omega
          go_region_held3 (fun W => W.cell? ⟨gx, 0, none⟩ = some (.int .i64 kd)) (first | assumption | go_keep) (first
            | (go_at_call 26; refine (shapes_any _).mono ?_; rintro e1 w1 ⟨rfl, hb1⟩; have k01 : w1.cell? ⟨gx, 0, none⟩ = some (.int .i64 kd) := (hb1.cell hA.lt).trans k0))
          have hb1' : Below wa.heap.size wa w1 := ((Below.refl wa.heap.size wa).drew).trans hb1
          have hA1 := hA.below hb1' hA.lt
          have HC := hide (And.intro (builder_below (unhide HA).2.1 hb1') (And.intro ((unhide HA).2.2.1.trans (hb1'.mono (unhide HA).2.2.1.size)) (And.intro ((unhide HA).2.2.2.1.below hb1') ((unhide HA).2.2.2.2.below hb1'))))
          have m1 := hA1.cell 1; have m2 := hA1.cell 2; have m3 := hA1.cell 3; have m4 := hA1.cell 4; have m5 := hA1.cell 5; have m6 := hA1.cell 6; have m7 := hA1.cell 7; have m8 := hA1.cell 8
          simp only [List.getElem?_toArray, List.getElem?_cons_zero, List.getElem?_cons_succ] at m1 m2 m3 m4 m5 m6 m7 m8
          obtain ⟨k, rfl⟩ : ∃ k : Nat, kd = (k : Int) := ⟨kd.toNat, by omega⟩
          have hwd := words_any k a b c d e f _ _ ns ss w1 (by omega) (by omega) (unhide HC).2.2.1 (unhide HC).2.2.2 hso.1.1 hso.1.2.1 hso.2 hso.1.2.2.2
          have hlp : lineP ⟨(k : Int), [a, b, c, d, e, f], ns, ss⟩ = joinSp (wordsD (shapeAt k) ⟨k, [a, b, c, d, e, f], ns, ss⟩) ++ [10] := by
            unfold lineP
            rw [if_pos ⟨hk1, hk2⟩]
            rfl
          rw [words_at k (by omega)] at hwd
          have hne : wordsD (shapeAt k) ⟨k, [a, b, c, d, e, f], ns, ss⟩ ≠ [] := by unfold wordsD; simp
          rw [hlp] at hnx hsz
          have hjl := joinSp_len (wordsD (shapeAt k) ⟨k, [a, b, c, d, e, f], ns, ss⟩)
          generalize wordsD (shapeAt k) ⟨k, [a, b, c, d, e, f], ns, ss⟩ = ws at *
          have hjz : (joinSp ws).length ≤ 1099511627776 := by have := hsz.out; rw [List.length_append] at this; omega
          have HW := hide hwd; have HJ := hide (And.intro hne (And.intro (show ws.length ≤ 140737488355328 by omega) (show (joinSp ws).length ≤ 140737488355328 by omega)))
          clear hwd hlp hne hso HA hA hA1 hb1 hb1' hjl
          go_wp2_with fail
          refine (unhide HW).mono ?_
          rintro e2 w2 ⟨v2, rfl, hO2, hb2⟩
          have hjn := join_any hO2 (unhide HJ).1 (unhide HJ).2.1 (unhide HJ).2.2
          obtain ⟨Y, hY⟩ : ∃ Y : ByteArray, Hid ((⟨(joinSp ws).toArray⟩ : ByteArray) = Y) := ⟨_, Lib.hid rfl⟩
          have hYl : Y.data.toList = joinSp ws := by rw [← hY.out]
          have hYz : Y.size = (joinSp ws).length := by rw [← hY.out]; show (joinSp ws).toArray.size = _; rw [List.size_toArray]
          rw [hY.out] at hjn
          have HC2 := hide (And.intro (builder_below (unhide HC).1 hb2) ((unhide HC).2.1.trans (hb2.mono (unhide HC).2.1.size)))
          have HJN := hide hjn; have HYL := hide (And.intro hYl hYz)
          have e1 : (⟨#[10]⟩ : ByteArray).size = 1 := rfl
          have y1 : ¬ 9223372036854775807 < Y.size + 1 := by omega
          clear hjn hYl hYz HC HJ HW hO2 hb2 m1 m2 m3 m4 m5 m6 m7 m8 k0 k01 hjz
          go_wp2_with fail
          refine (unhide HJN).mono ?_
          rintro e3 w3 ⟨rfl, hb3⟩
          have HC3 := hide (And.intro (builder_below (unhide HC2).1 hb3) ((unhide HC2).2.trans (hb3.mono (unhide HC2).2.size)))
          clear hb3 HC2 HJN
          go_wp2_with fail
          have hww := writeString_any w.heap.size w.heap.size (Lib.byteCells T) (Y ++ ⟨#[10]⟩) w3 (unhide HC3).1 (by
            rw [Lib.byteCells_length, ByteArray.size_append, e1]
            have h1 := hsz.out; have h2 := (unhide HYL).2
            rw [List.length_append, List.length_singleton] at h1
            omega) (unhide HC3).2.size
          refine hww.mono ?_
          rintro e4 w4 ⟨rfl, hB4, hb4, -⟩
          have hB5 : IsBuilderF 58 5 w.heap.size w.heap.size (Lib.byteCells (scriptL (l.take (j + 1)))) w4 := by
            rw [hnx.out]
            rw [strCells_bytes, ← Lib.byteCells_append, ByteArray.data_append, Array.toList_append, (unhide HYL).1] at hB4
            exact .inr hB4
          have H5 := hide (And.intro hB5 ((unhide HC3).2.trans hb4))
          clear hB4 hB5 hb4 hww HC3
          go_wp2_with fail
          exact ⟨⟨j + 1, by omega, by go_num, (unhide H5).1, (unhide H5).2⟩, by simp [RowKit.intOf]; omega⟩
        · have hk3 : ¬ kd < 35 := by omega
          go_region_held3 (fun W => W.cell? ⟨gx, 0, none⟩ = some (.int .i64 kd)) (first | assumption | go_keep) (first
            | (go_at_call 26; refine (shapes_any _).mono ?_; rintro e1 w1 ⟨rfl, hb1⟩; have k01 : w1.cell? ⟨gx, 0, none⟩ = some (.int .i64 kd) := (hb1.cell hA.lt).trans k0))
          have hb1' : Below wa.heap.size wa w1 := ((Below.refl wa.heap.size wa).drew).trans hb1
          have hlp : lineP ⟨kd, [a, b, c, d, e, f], ns, ss⟩ = [] := by
            unfold lineP
            rw [if_neg (fun h => absurd (show kd ≤ 34 from h.2) (by omega))]
          rw [hlp, List.append_nil] at hnx
          have H5 := hide (And.intro (builder_below (unhide HA).2.1 hb1') ((unhide HA).2.2.1.trans (hb1'.mono (unhide HA).2.2.1.size)))
          clear hso HA hA hb1 hb1' hlp
          go_wp2_with fail
          exact ⟨⟨j + 1, by omega, by go_num, by rw [hnx.out]; exact (unhide H5).1, (unhide H5).2⟩, by simp [RowKit.intOf]; omega⟩
      · have hlp : lineP ⟨kd, [a, b, c, d, e, f], ns, ss⟩ = [] := by
          unfold lineP
          rw [if_neg (fun h => hk1 h.1)]
        rw [hlp, List.append_nil] at hnx
        clear hso hlp
        have hd : decide (1 ≤ kd) = false := decide_eq_false hk1
        go_quiet (fail)
        go_wp2_with fail
        exact ⟨⟨j + 1, by omega, by go_num, by rw [hnx.out]; exact builder_drewN (unhide HA).2.1 _, below_drewN (unhide HA).2.2.1 _⟩, by simp [RowKit.intOf]; omega⟩
    · have t1 : ¬ (j : Int) < (l.length : Int) := by omega
      rw [List.take_of_length_le hge] at hB
      have hsb := Try.Builder_String_any_k gb gb (scriptL l) wr hB (by have := hb.size; omega)
      have HX := hide (And.intro hB hb); have HS := hide hsb; clear hB hb hsb
      go_wp2_with fail
      refine (unhide HS).mono ?_
      rintro e w3 ⟨rfl, -, hb3, -⟩
      have H3 := hide ((unhide HX).2.trans hb3); clear hb3 HS HX
      go_wp2_with fail
      go_ret
      exact ⟨rfl, by first | exact unhide H3 | (rw [hgb]; exact unhide H3)⟩
end Go.Proofs.Ytaomecinemmdgaa

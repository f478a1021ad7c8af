/-
  CONTRACT of the document's Decode.
-/
import Derived.Test.YtaomecinemmdgaaRows
import Derived.Test.YtaomecinemmdgaaWd
import Derived.Test.YtaomecinemmdgaaStrRow
import Derived.Test.YtaomecinemmdgaaDecP
import Derived.Test.YtaomecinemmdgaaRStep
import Derived.Test.YtaomecinemmdgaaRLin
import Derived.Test.YtaomecinemmdgaaRTWords
set_option linter.unusedVariables false
set_option linter.unusedSimpArgs false
namespace Go.Proofs.Ytaomecinemmdgaa
open Go.RowKit Go.Lib
theorem linL_len (l : List UInt8) : (linL l).length ≤ l.length + 1 := by
  have h := splL_length 10 l
  unfold linL
  split
  · rw [List.length_dropLast]; omega
  · exact h
theorem linL_mem {l x : List UInt8} (h : x ∈ linL l) : x.length ≤ l.length := by
  unfold linL at h
  split at h
  · exact splL_mem 10 l x ((List.dropLast_sublist _).subset h)
  · exact splL_mem 10 l x h
set_option maxRecDepth 100000 in
set_option maxHeartbeats 4000000 in
theorem rdecode_any (t : ByteArray) (w : World) (hs : t.size ≤ 1048577) :
    Calls Try.prog 23 #[.string t] w fun e w' => DecR w w' t e ∧ Below w.heap.size w w' := by
  obtain ⟨R, hR⟩ : ∃ R, Hid (decO t = R) := ⟨_, Lib.hid rfl⟩
  have hll : t.data.toList.length = t.size := Array.length_toList
  have hln := rlin_any t w (by omega)
  have hlz := linL_len t.data.toList
  have hlm : Hid (∀ x ∈ linL t.data.toList, x.length ≤ 1048577) := Lib.hid (fun x hx => by have := linL_mem hx; omega)
  have hR1 : Hid (decF (linL t.data.toList) 1 [] = R) := Lib.hid hR.out
  rw [hll] at hlz
  generalize linL t.data.toList = LL at *
  have HL := hide hln; clear hln hll
  go_enter Try.func23, Try.ntmps23
  go_wp2_with fail
  refine (unhide HL).mono ?_
  rintro e0 w0 ⟨vl, rfl, hOl, hb0⟩
  have hSl := ownT_strs hOl
  obtain ⟨Al, cl, rfl, -⟩ := id hSl
  have hml : (LL.map bsL).length = LL.length := List.length_map ..
  rw [hml] at hSl ⊢
  have H0 := hide (And.intro hSl hb0); clear hSl hOl hb0 HL
  have hml2 := Lib.hid hml; clear hml
  go_wp2_with fail
  go_loopw [6, 7, 8, 9, 11] (fun u i _ _ _ W => ∃ (j : Nat) (es : List TE), i = .int .i64 (j : Int) ∧ j ≤ LL.length ∧ es.length ≤ j ∧ Hid (decF (LL.drop j) (j + 1) (es.map TE.step) = R) ∧ TwS w0 W u es) (fun _ i _ _ _ _ => LL.length - (RowKit.intOf i).toNat)
  case atStart => exact ⟨0, [], rfl, by omega, by simp, Lib.hid hR1.out, ⟨World.ownsRow_nil _ _ _ _, fun x hx => absurd hx (by simp), Below.refl _ _⟩⟩
  case round =>
    obtain ⟨j, es, rfl, hj, hel, hI, hX⟩ := hrel
    have t0 : (0 : Int) ≤ (j : Int) := by omega
    rcases Nat.lt_or_ge j LL.length with hlt | hge
    · have t1 : (j : Int) < (LL.length : Int) := by omega
      have qn : j ≤ 1048578 := by omega
      obtain ⟨ad, rfl, hca⟩ := strs_at ((unhide H0).1.below hX.b) j (by rw [hml2.out]; exact hlt)
      rw [List.getElem_map] at hca
      have hI2 := hI.out
      rw [List.drop_eq_getElem_cons hlt] at hI2
      have hxz := hlm.out _ (List.getElem_mem hlt)
      generalize LL[j] = l1 at *
      obtain ⟨L, hL⟩ : ∃ L : ByteArray, Hid (bsL l1 = L) := ⟨_, Lib.hid rfl⟩
      rw [hL.out] at hca
      have hLz : L.size ≤ 1048577 := by rw [← hL.out]; show l1.toArray.size ≤ _; rw [List.size_toArray]; exact hxz
      have hLl : Hid (L.data.toList = l1) := Lib.hid (by rw [← hL.out]; rfl)
      have HI := hide hI2; have HX := hide hX
      clear hI hI2 hX hxz
      by_cases hl0 : l1 = []
      · have hq2 : L.toList = [] := by rw [← hL.out, hl0]; kernel_rfl
        have hq3 : L.toList.isEmpty = true := by rw [hq2]; rfl
        have HI2 := unhide HI
        rw [decF_skip (.inl hl0)] at HI2
        have HI3 := hide HI2; clear HI HI2 hl0
        go_wp2_with fail
        exact ⟨⟨j + 1, es, by go_num, by omega, by omega, Lib.hid (unhide HI3), unhide HX⟩, by simp [RowKit.intOf]; omega⟩
      · have hLne : L ≠ ⟨#[]⟩ := fun e => hl0 (by rw [← hLl.out, e])
        have hq1 : ¬ L.toList = [] := by
          have h := toList_ne (b := ⟨#[]⟩) hLne
          rw [show (⟨#[]⟩ : ByteArray).toList = [] from by kernel_rfl, beq_eq_false_iff_ne] at h
          exact h
        have hq3 : L.toList.isEmpty = false := by cases hh : L.toList with | nil => exact absurd hh hq1 | cons _ _ => rfl
        have hL0 : 0 < L.size := Nat.pos_of_ne_zero (fun e => hLne (by apply ByteArray.ext; exact Array.eq_empty_of_size_eq_zero e))
        have hh0 : Hid (l1.head? = some L[0]) := Lib.hid (by
          have h := hLl.out; subst h
          rw [List.head?_eq_getElem?, List.getElem?_eq_getElem (by rw [Array.length_toList]; exact hL0)]
          rfl)
        have i0 : (0 : Int) < (L.size : Int) := by omega
        by_cases h35 : L[0] = 35
        · have q1 : ((L[0].toNat : Int) == 35) = true := by rw [h35]; rfl
          have q2 : (L[0].toNat : Int) = 35 := by rw [h35]; rfl
          have HI2 := unhide HI
          rw [decF_skip (.inr (by rw [hh0.out, h35]))] at HI2
          have HI3 := hide HI2; clear HI HI2 h35 hl0 hLne hh0
          go_wp2_with fail
          exact ⟨⟨j + 1, es, by go_num, by omega, by omega, Lib.hid (unhide HI3), unhide HX⟩, by simp [RowKit.intOf]; omega⟩
        · have q1 : ((L[0].toNat : Int) == 35) = false := by
            rw [beq_eq_false_iff_ne]; exact fun e => h35 (UInt8.toNat_inj.1 (by show L[0].toNat = 35; omega))
          have q2 : ¬ (L[0].toNat : Int) = 35 := by rw [beq_eq_false_iff_ne] at q1; exact q1
          have hnsk : ¬ (l1 = [] ∨ l1.head? = some 35) := by
            rintro (h | h)
            · exact hl0 h
            · rw [hh0.out] at h; injection h with h; exact h35 h
          have hwd := rtwords_any L wr (by omega)
          have HW := hide hwd
          have HN := Lib.hid hnsk; have HL0 := Lib.hid hl0
          clear hwd hnsk h35 hl0 hLne hh0
          go_wp2_with fail
          refine (unhide HW).mono ?_
          rintro e2 w2 ⟨hWd, hb2⟩
          have HX2 := hide ((unhide HX).call hb2)
          have hwz := (unhide HX).b.size
          rcases hWd with ⟨ts, vw, hts, rfl, hOt⟩ | ⟨hts, rfl⟩
          · have hne := wdsL_ne (l := l1) HL0.out (by rw [hL.out]; exact hts)
            have htz := wdsL_size hts
            have hst := rstep_any vw wr.heap.size ts w2 hOt hne (fun x hx => by have := htz.1 x hx; omega) (by have := htz.2; omega)
            obtain ⟨Aw, cw, rfl, -⟩ := id (ownT_strs hOt)
            have HST := hide hst; have HTS := Lib.hid hts
            clear hst hts hne htz hOt hb2 HX HW
            go_wp2_with fail
            refine (unhide HST).mono ?_
            rintro e3 w3 ⟨hSt, hb3⟩
            have HX3 := hide ((unhide HX2).call hb3)
            have hw3 := (unhide HX2).b.size
            unfold StepV at hSt
            cases hso : stepO ts with
            | inl c =>
              rw [hso] at hSt
              simp only at hSt
              subst hSt
              have HI2 := unhide HI
              rw [decF_no HN.out (by rw [hL.out]; exact HTS.out) hso] at HI2
              have hr := Lib.hid HI2
              have hc := stepO_ne hso
              have z1 : ((c : Int) == 0) = false := by rw [beq_eq_false_iff_ne]; omega
              have z2 : ¬ (c : Int) = 0 := by omega
              unfold zeroStep
              clear hso HI2 HI hb3 HX2 hc
              go_wp2_with fail
              go_ret3
              have hbw := ((unhide H0).2.trans ((unhide HX3).b.mono (unhide H0).2.size)).alloc (by have := (unhide HX3).b.size; have := (unhide H0).2.size; omega) (.cells #[.int .i64 0, .slice none 0 0, .slice none 0 0, .int .i64 0, .int .i64 0, .int .i64 0, .int .i64 0, .int .i64 0, .int .i64 0] 52)
              exact ⟨⟨_, [], by rw [hR.out, ← hr.out]; rfl, by rw [hR.out, ← hr.out]; rfl, ⟨World.ownsRow_nil _ _ _ _, fun x hx => absurd hx (by simp), hbw⟩⟩, hbw⟩
            | inr q =>
              rw [hso] at hSt
              simp only at hSt
              obtain ⟨x, hxq, rfl, hxN, hxT⟩ := hSt
              have HI2 := unhide HI
              rw [decF_yes HN.out (by rw [hL.out]; exact HTS.out) hso, ← hxq] at HI2
              have HI3 := hide HI2
              obtain ⟨kd, vn, vs, a, b, c, d, e, f, ns, ss⟩ := x
              simp only at hxN hxT
              obtain ⟨An, cn, rfl, -⟩ := id hxN.ints
              obtain ⟨As, cs, rfl, -⟩ := id (ownT_strs hxT)
              unfold TE.cs
              simp only
              have hbA : Below w3.heap.size w3 (w3.alloc (.cells #[.int .i64 kd, .slice An ns.length cn, .slice As ss.length cs, .int .i64 a, .int .i64 b, .int .i64 c, .int .i64 d, .int .i64 e, .int .i64 f] 52)) := (Below.refl _ _).alloc (Nat.le_refl _) _
              have HX4 := hide (And.intro ((unhide HX3).call hbA) (And.intro (ownI_below (row_mono hxN hw3 : OwnI w3 w0.heap.size _ _) hbA) (row_low (row_mono hxT hw3) (fun q hq => (World.ownsRow.lt hxT q hq).2) hbA : OwnT _ w0.heap.size _ _)))
              clear hso HI2 HI hb3 HX2 HX3 hxN hxT hbA hxq
              go_upto_region 13 with fail
              have hB4 := Blk.new w3 52 #[.int .i64 kd, .slice An ns.length cn, .slice As ss.length cs, .int .i64 a, .int .i64 b, .int .i64 c, .int .i64 d, .int .i64 e, .int .i64 f]
              have m0 := hB4.cell 0; have m1 := hB4.cell 1; have m2 := hB4.cell 2; have m3 := hB4.cell 3; have m4 := hB4.cell 4; have m5 := hB4.cell 5; have m6 := hB4.cell 6; have m7 := hB4.cell 7; have m8 := hB4.cell 8
              simp only [List.getElem?_toArray, List.getElem?_cons_zero, List.getElem?_cons_succ] at m0 m1 m2 m3 m4 m5 m6 m7 m8
              clear hB4
              generalize (w3.alloc (.cells #[.int .i64 kd, .slice An ns.length cn, .slice As ss.length cs, .int .i64 a, .int .i64 b, .int .i64 c, .int .i64 d, .int .i64 e, .int .i64 f] 52)) = w4 at *
              have hbz : Hid (w0.heap.size ≤ w4.heap.size) := Lib.hid (unhide HX4).1.b.size
              go_wp2_with (first | (at_builtin; refine wpList_appS1 w4 rfl _ _ rfl (unhide HX4).1.row rfl (y := ⟨kd, .slice An ns.length cn, .slice As ss.length cs, a, b, c, d, e, f, ns, ss⟩) rfl ⟨rfl, rfl⟩ (by omega) hbz.out ?_; intro v9 w9 hO9 hg9 hat9; have H9 := hide (TwS.app (y := ⟨kd, .slice An ns.length cn, .slice As ss.length cs, a, b, c, d, e, f, ns, ss⟩) (unhide HX4).1 (unhide HX4).2.1 (unhide HX4).2.2 hO9 hg9); clear hO9 hg9 hat9))
              exact ⟨⟨j + 1, es ++ [⟨kd, .slice An ns.length cn, .slice As ss.length cs, a, b, c, d, e, f, ns, ss⟩], by go_num, by omega, by simp; omega, Lib.hid (by rw [List.map_append]; exact unhide HI3), unhide H9⟩, by simp [RowKit.intOf]; omega⟩
          · have HI2 := unhide HI
            rw [decF_bad HN.out (by rw [hL.out]; exact hts)] at HI2
            have hr := Lib.hid HI2
            clear HI2 HI hts hb2 HX HW
            go_wp2_with fail
            go_ret3
            have hbw := (unhide H0).2.trans ((unhide HX2).b.mono (unhide H0).2.size)
            exact ⟨⟨_, [], by rw [hR.out, ← hr.out]; rfl, by rw [hR.out, ← hr.out]; rfl, ⟨World.ownsRow_nil _ _ _ _, fun x hx => absurd hx (by simp), hbw⟩⟩, hbw⟩
    · have t1 : ¬ (j : Int) < (LL.length : Int) := by omega
      have hr : Hid (R = (es.map TE.step, 0, 0)) := Lib.hid (by rw [← hI.out, List.drop_eq_nil_of_le hge, decF])
      obtain ⟨Au, cu, rfl, -⟩ := id hX.steps
      have hlm2 : (es.map TE.step).length = es.length := List.length_map ..
      rw [hlm2] at hX ⊢
      clear hlm2
      have HX := hide (And.intro (hX.rebase (unhide H0).2) ((unhide H0).2.trans (hX.b.mono (unhide H0).2.size))); clear hX hI
      go_wp2_with fail
      go_ret3
      refine ⟨⟨_, es, by rw [hR.out, hr.out]; rfl, by rw [hR.out, hr.out], (unhide HX).1⟩, (unhide HX).2⟩
end Go.Proofs.Ytaomecinemmdgaa

/-
  CONTRACT of play.Decode.
-/
import Derived.Test.YtaomecinemmdgaaRows
import Derived.Test.YtaomecinemmdgaaGBase
import Derived.Test.YtaomecinemmdgaaGLns
import Derived.Test.YtaomecinemmdgaaSDecP
import Derived.Test.YtaomecinemmdgaaSStepW
import Derived.Test.YtaomecinemmdgaaSRTWords
set_option linter.unusedVariables false
set_option linter.unusedSimpArgs false
namespace Go.Proofs.Ytaomecinemmdgaa
open Go.RowKit Go.Lib
def MaxK (w : World) : Prop := ∃ m : Int, w.cell? ⟨0, 0, none⟩ = some (.int .i64 m)
theorem MaxK.below {w w' : World} {B : Nat} (h : MaxK w) (hb : Below B w w') (hB : 0 < B) : MaxK w' := by
  obtain ⟨m, hm⟩ := h
  exact ⟨m, (hb.cell (p := ⟨0, 0, none⟩) hB).trans hm⟩
theorem MaxK.lt {w : World} (h : MaxK w) : 0 < w.heap.size := by
  obtain ⟨m, hm⟩ := h
  exact World.block_lt_of_cell? w _ hm
theorem max_k {w : World} (h : w.ShapedOpen Try.prog) : MaxK w :=
  Go.Proofs.cell_of_shapedOpen_int (zero := #[.int .i64 0]) (t := 3) h (of_decide_eq_true (by kernel_rfl)) (by kernel_rfl) rfl (by kernel_rfl) (by kernel_rfl) Try.underlying3
theorem cut10 (s : ByteArray) (w : World) (hs : s.size ≤ 4000000000) (hM : MaxK w) : Calls Try.prog 44 #[.string s, .string ⟨#[10]⟩] w fun e w' => e = .returned (.tuple #[.string (bsL (Lib.cut s.data.toList [10]).1), .string (bsL (Lib.cut s.data.toList [10]).2.1), .bool (Lib.cut s.data.toList [10]).2.2]) ∧ Below w.heap.size w w' := by
  obtain ⟨m, hm⟩ := hM
  refine (Try.strings_Cut s ⟨#[10]⟩ m w (by omega) hm).mono ?_
  rintro e w' ⟨rfl, n, rfl⟩
  exact ⟨rfl, below_drewN (Below.refl _ _) n⟩
set_option maxRecDepth 100000 in
set_option maxHeartbeats 4000000 in
theorem decode_big (t : ByteArray) (w : World) (hs : t.size ≤ 4000000000) (hM : MaxK w) :
    Calls Try.prog 22 #[.string t] w fun e w' => DecR w w' t e ∧ Below w.heap.size w w' := by
  obtain ⟨R, hR⟩ : ∃ R, Hid (decO t = R) := ⟨_, Lib.hid rfl⟩
  have HM := hide hM; clear hM
  obtain ⟨T, hT⟩ : ∃ T, Hid (t = T) := ⟨_, Lib.hid rfl⟩
  go_enter Try.func22, Try.ntmps22
  go_wp2_with fail
  go_loopw [0, 5, 6, 7, 8, 9, 10, 11] (fun sv u nv _ _ _ _ _ W => ∃ (s : ByteArray) (n : Nat) (es : List TE), sv = .string s ∧ nv = .int .i64 (n : Int) ∧ s.size ≤ 4000000000 ∧ n + s.size ≤ 4000000001 ∧ es.length ≤ n ∧ Hid (decF (linL s.data.toList) n (es.map TE.step) = R) ∧ TwS w W u es) (fun sv _ _ _ _ _ _ _ _ => (match sv with | .string s => s.size | _ => 0))
  case atStart => exact ⟨t, 1, [], rfl, rfl, hs, by omega, by simp, Lib.hid hR.out, ⟨World.ownsRow_nil _ _ _ _, fun x hx => absurd hx (by simp), Below.refl _ _⟩⟩
  case round =>
    obtain ⟨s, n, es, rfl, rfl, hsz, hnz, hel, hI, hX⟩ := hrel
    by_cases h0 : s = ⟨#[]⟩
    · have hp2 : s.toList = [] := by rw [h0]; kernel_rfl
      have hp3 : s.toList.isEmpty = true := by rw [hp2]; rfl
      have hr : Hid (R = (es.map TE.step, 0, 0)) := Lib.hid (by rw [← hI.out, h0]; show decF (linL []) n _ = _; rw [linL_nil, decF])
      obtain ⟨Au, cu, rfl, -⟩ := id hX.steps
      have HX := hide hX; clear hX hI h0
      go_wp2_with fail
      go_ret3
      refine ⟨⟨_, es, by rw [hR.out, hr.out]; rfl, by rw [hR.out, hr.out], unhide HX⟩, (unhide HX).b⟩
    · have hp1 : ¬ s.toList = [] := by
        have h := toList_ne (b := ⟨#[]⟩) h0
        rw [show (⟨#[]⟩ : ByteArray).toList = [] from by kernel_rfl, beq_eq_false_iff_ne] at h
        exact h
      have hp3 : s.toList.isEmpty = false := by cases hh : s.toList with | nil => exact absurd hh hp1 | cons _ _ => rfl
      have hsl : s.data.toList ≠ [] := fun e => h0 (by apply ByteArray.ext; apply Array.ext'; exact e)
      have hll : s.data.toList.length = s.size := Array.length_toList
      have hcl := cut_len s.data.toList
      have hI2 := hI.out
      rw [linL_cut hsl] at hI2
      have hct := cut10 s wr hsz ((unhide HM).below hX.b (unhide HM).lt)
      obtain ⟨c3, hc3⟩ : ∃ c, (Lib.cut s.data.toList [10]).2.2 = c := ⟨_, rfl⟩
      rw [hc3] at hct
      have hc2 := hcl.2 hsl
      have hc1 := hcl.1
      clear hcl hc3
      generalize (Lib.cut s.data.toList [10]).1 = l1 at *
      generalize (Lib.cut s.data.toList [10]).2.1 = l2 at *
      rw [hll] at hc1 hc2
      obtain ⟨L, hL⟩ : ∃ L : ByteArray, Hid (bsL l1 = L) := ⟨_, Lib.hid rfl⟩
      obtain ⟨S, hS⟩ : ∃ S : ByteArray, Hid (bsL l2 = S) := ⟨_, Lib.hid rfl⟩
      rw [hL.out, hS.out] at hct
      have hLz : L.size ≤ 4000000000 := by rw [← hL.out]; show l1.toArray.size ≤ _; rw [List.size_toArray]; omega
      have hSz : Hid (S.size < s.size) := Lib.hid (by rw [← hS.out]; show l2.toArray.size < _; rw [List.size_toArray]; omega)
      have hLl : Hid (L.data.toList = l1) := Lib.hid (by rw [← hL.out]; rfl)
      have hSl : Hid (S.data.toList = l2) := Lib.hid (by rw [← hS.out]; rfl)
      have HI := hide hI2; have HX := hide hX; have HCT := hide hct
      clear hI hI2 hX hct h0 hsl hll hc1 hc2
      go_wp2_with fail
      refine (unhide HCT).mono ?_
      rintro e1 w1 ⟨rfl, hb1⟩
      have HX1 := hide ((unhide HX).call hb1); clear hb1 HX HCT
      have qn : n ≤ 4000000001 := by omega
      by_cases hl0 : l1 = []
      · have hq2 : L.toList = [] := by rw [← hL.out, hl0]; kernel_rfl
        have hq3 : L.toList.isEmpty = true := by rw [hq2]; rfl
        have HI2 := unhide HI
        rw [decF_skip (.inl hl0)] at HI2
        have HI3 := hide HI2; clear HI HI2 hl0
        go_wp2_with fail
        exact ⟨⟨S, n + 1, es, rfl, by go_num, by have := hSz.out; omega, by have := hSz.out; omega, by omega, Lib.hid (by rw [hSl.out]; exact unhide HI3), unhide HX1⟩, hSz.out⟩
      · have hLne : L ≠ ⟨#[]⟩ := fun e => hl0 (by rw [← hLl.out, e])
        have hq1 : ¬ L.toList = [] := by
          have h := toList_ne (b := ⟨#[]⟩) hLne
          rw [show (⟨#[]⟩ : ByteArray).toList = [] from by kernel_rfl, beq_eq_false_iff_ne] at h
          exact h
        have hq3 : L.toList.isEmpty = false := by cases hh : L.toList with | nil => exact absurd hh hq1 | cons _ _ => rfl
        have hL0 : 0 < L.size := Nat.pos_of_ne_zero (fun e => hLne (by apply ByteArray.ext; exact Array.eq_empty_of_size_eq_zero e))
        have hh0 : Hid (l1.head? = some L[0]) := Lib.hid (by
          have h := hLl.out; subst h
          rw [List.head?_eq_getElem?, List.getElem?_eq_getElem (by rw [Array.length_toList]; exact hL0)]
          rfl)
        have i0 : (0 : Int) < (L.size : Int) := by omega
        by_cases h35 : L[0] = 35
        · have q1 : ((L[0].toNat : Int) == 35) = true := by rw [h35]; rfl
          have q2 : (L[0].toNat : Int) = 35 := by rw [h35]; rfl
          have HI2 := unhide HI
          rw [decF_skip (.inr (by rw [hh0.out, h35]))] at HI2
          have HI3 := hide HI2; clear HI HI2 h35 hl0 hLne hh0
          go_wp2_with fail
          exact ⟨⟨S, n + 1, es, rfl, by go_num, by have := hSz.out; omega, by have := hSz.out; omega, by omega, Lib.hid (by rw [hSl.out]; exact unhide HI3), unhide HX1⟩, hSz.out⟩
        · have q1 : ((L[0].toNat : Int) == 35) = false := by
            rw [beq_eq_false_iff_ne]; exact fun e => h35 (UInt8.toNat_inj.1 (by show L[0].toNat = 35; omega))
          have q2 : ¬ (L[0].toNat : Int) = 35 := by rw [beq_eq_false_iff_ne] at q1; exact q1
          have hnsk : ¬ (l1 = [] ∨ l1.head? = some 35) := by
            rintro (h | h)
            · exact hl0 h
            · rw [hh0.out] at h; injection h with h; exact h35 h
          have hwd := twords_any L w1 (by omega)
          have HW := hide hwd
          have HN := Lib.hid hnsk; have HL0 := Lib.hid hl0
          clear hwd hnsk h35 hl0 hLne hh0
          go_wp2_with fail
          refine (unhide HW).mono ?_
          rintro e2 w2 ⟨hWd, hb2⟩
          have HX2 := hide ((unhide HX1).call hb2)
          have hwz := (unhide HX1).b.size
          rcases hWd with ⟨ts, vw, hts, rfl, hOt⟩ | ⟨hts, rfl⟩
          · have hne := wdsL_ne (l := l1) HL0.out (by rw [hL.out]; exact hts)
            have htz := wdsL_size hts
            have hst := step_any vw w1.heap.size ts w2 hOt hne (fun x hx => by have := htz.1 x hx; omega) (by have := htz.2; omega)
            obtain ⟨Aw, cw, rfl, -⟩ := id (ownT_strs hOt)
            have HST := hide hst; have HTS := Lib.hid hts
            clear hst hts hne htz hOt hb2 HX1 HW
            go_wp2_with fail
            refine (unhide HST).mono ?_
            rintro e3 w3 ⟨hSt, hb3⟩
            have HX3 := hide ((unhide HX2).call hb3)
            have hw3 := (unhide HX2).b.size
            unfold StepV at hSt
            cases hso : stepO ts with
            | inl c =>
              rw [hso] at hSt
              simp only at hSt
              subst hSt
              have HI2 := unhide HI
              rw [decF_no HN.out (by rw [hL.out]; exact HTS.out) hso] at HI2
              have hr := Lib.hid HI2
              have hc := stepO_ne hso
              have z1 : ((c : Int) == 0) = false := by rw [beq_eq_false_iff_ne]; omega
              have z2 : ¬ (c : Int) = 0 := by omega
              unfold zeroStep
              clear hso HI2 HI hb3 HX2 hc
              go_wp2_with fail
              go_ret3
              exact ⟨⟨_, [], by rw [hR.out, ← hr.out]; rfl, by rw [hR.out, ← hr.out]; rfl, ⟨World.ownsRow_nil _ _ _ _, fun x hx => absurd hx (by simp), (unhide HX3).b.alloc (unhide HX3).b.size _⟩⟩, (unhide HX3).b.alloc (unhide HX3).b.size _⟩
            | inr q =>
              rw [hso] at hSt
              simp only at hSt
              obtain ⟨x, hxq, rfl, hxN, hxT⟩ := hSt
              have HI2 := unhide HI
              rw [decF_yes HN.out (by rw [hL.out]; exact HTS.out) hso, ← hxq] at HI2
              have HI3 := hide HI2
              obtain ⟨kd, vn, vs, a, b, c, d, e, f, ns, ss⟩ := x
              simp only at hxN hxT
              obtain ⟨An, cn, rfl, -⟩ := id hxN.ints
              obtain ⟨As, cs, rfl, -⟩ := id (ownT_strs hxT)
              unfold TE.cs
              simp only
              have hbA : Below w3.heap.size w3 (w3.alloc (.cells #[.int .i64 kd, .slice An ns.length cn, .slice As ss.length cs, .int .i64 a, .int .i64 b, .int .i64 c, .int .i64 d, .int .i64 e, .int .i64 f] 52)) := (Below.refl _ _).alloc (Nat.le_refl _) _
              have HX4 := hide (And.intro ((unhide HX3).call hbA) (And.intro (ownI_below (row_mono hxN hw3 : OwnI w3 w.heap.size _ _) hbA) (row_low (row_mono hxT hw3) (fun q hq => (World.ownsRow.lt hxT q hq).2) hbA : OwnT _ w.heap.size _ _)))
              clear hso HI2 HI hb3 HX2 HX3 hxN hxT hbA hxq
              go_upto_region 14 with fail
              have hB4 := Blk.new w3 52 #[.int .i64 kd, .slice An ns.length cn, .slice As ss.length cs, .int .i64 a, .int .i64 b, .int .i64 c, .int .i64 d, .int .i64 e, .int .i64 f]
              have m0 := hB4.cell 0; have m1 := hB4.cell 1; have m2 := hB4.cell 2; have m3 := hB4.cell 3; have m4 := hB4.cell 4; have m5 := hB4.cell 5; have m6 := hB4.cell 6; have m7 := hB4.cell 7; have m8 := hB4.cell 8
              simp only [List.getElem?_toArray, List.getElem?_cons_zero, List.getElem?_cons_succ] at m0 m1 m2 m3 m4 m5 m6 m7 m8
              clear hB4
              generalize (w3.alloc (.cells #[.int .i64 kd, .slice An ns.length cn, .slice As ss.length cs, .int .i64 a, .int .i64 b, .int .i64 c, .int .i64 d, .int .i64 e, .int .i64 f] 52)) = w4 at *
              have hbz : Hid (w.heap.size ≤ w4.heap.size) := Lib.hid (unhide HX4).1.b.size
              go_wp2_with (first | (at_builtin; refine wpList_appS1 w4 rfl _ _ rfl (unhide HX4).1.row rfl (y := ⟨kd, .slice An ns.length cn, .slice As ss.length cs, a, b, c, d, e, f, ns, ss⟩) rfl ⟨rfl, rfl⟩ (by omega) hbz.out ?_; intro v9 w9 hO9 hg9 hat9; have H9 := hide (TwS.app (y := ⟨kd, .slice An ns.length cn, .slice As ss.length cs, a, b, c, d, e, f, ns, ss⟩) (unhide HX4).1 (unhide HX4).2.1 (unhide HX4).2.2 hO9 hg9); clear hO9 hg9 hat9))
              exact ⟨⟨S, n + 1, es ++ [⟨kd, .slice An ns.length cn, .slice As ss.length cs, a, b, c, d, e, f, ns, ss⟩], rfl, by go_num, by have := hSz.out; omega, by have := hSz.out; omega, by simp; omega, Lib.hid (by rw [hSl.out, List.map_append]; exact unhide HI3), unhide H9⟩, hSz.out⟩
          · have HI2 := unhide HI
            rw [decF_bad HN.out (by rw [hL.out]; exact hts)] at HI2
            have hr := Lib.hid HI2
            clear HI2 HI hts hb2 HX1 HW
            go_wp2_with fail
            go_ret3
            exact ⟨⟨_, [], by rw [hR.out, ← hr.out]; rfl, by rw [hR.out, ← hr.out]; rfl, ⟨World.ownsRow_nil _ _ _ _, fun x hx => absurd hx (by simp), (unhide HX2).b⟩⟩, (unhide HX2).b⟩
theorem decode_any (t : ByteArray) (w : World) (hs : t.size ≤ 1048577) (hM : MaxK w) :
    Calls Try.prog 22 #[.string t] w fun e w' => DecR w w' t e ∧ Below w.heap.size w w' := decode_big t w (by omega) hM
end Go.Proofs.Ytaomecinemmdgaa

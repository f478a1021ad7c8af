/-
  THE WALK of the law PlayByLines.
-/
import Derived.Test.YtaomecinemmdgaaRows
import Derived.Test.YtaomecinemmdgaaWd
import Derived.Test.YtaomecinemmdgaaDecode
import Derived.Test.YtaomecinemmdgaaSameSt
import Derived.Test.YtaomecinemmdgaaByL
import Derived.Test.YtaomecinemmdgaaWPlayDecodeExact
set_option linter.unusedVariables false
set_option linter.unusedSimpArgs false
namespace Go.Proofs.Ytaomecinemmdgaa
open Go.RowKit Go.Lib
/-- The known step in cells. -/
theorem known_at {w W : World} {v : Value} {es : List TE} (h : TwS w W v es) (he : es.map TE.step = [⟨7, zero6, [7], []⟩]) : ∃ g cap g' cap', v = .slice (some ⟨g, 0, none⟩) 1 cap ∧ W.cell? ⟨g, 0, none⟩ = some (.int .i64 7) ∧ W.cell? ⟨g, 1, none⟩ = some (.slice (some ⟨g', 0, none⟩) 1 cap') ∧ W.cell? ⟨g', 0, none⟩ = some (.int .i64 7) := by
  have hl1 : es.length = 1 := by have := congrArg List.length he; rwa [List.length_map] at this
  obtain ⟨x, rfl⟩ := List.length_eq_one_iff.1 hl1
  · clear hl1
    simp only [List.map_cons, List.map_nil, List.cons.injEq, and_true] at he
    obtain ⟨kd, vn, vs, a, b, c, d, e, f, ns, ss⟩ := x
    unfold TE.step at he
    simp only [StepR.mk.injEq] at he
    obtain ⟨rfl, -, rfl, rfl⟩ := he
    have hn := (h.nest _ (List.mem_singleton.2 rfl)).1
    rcases id h.row.2 with ⟨rfl, hz⟩ | ⟨g, cap, cur, rfl, -⟩
    · simp at hz
    · rcases id hn.2 with ⟨hv, hz⟩ | ⟨g', cap', cur', hv, -⟩
      · simp at hz
      · simp only at hv hn
        subst hv
        have c0 := h.row.cell 0 0 (by simp) (by omega)
        have c1 := h.row.cell 0 1 (by simp) (by omega)
        have d0 := World.ownsRow.cellAt hn 0 (by simp)
        exact ⟨g, cap, g', cap', rfl, c0, c1, d0⟩
theorem tws_form {w W : World} {v : Value} {es : List TE} (h : TwS w W v es) : (v = .slice none 0 0 ∧ es = []) ∨ ∃ g cap, v = .slice (some ⟨g, 0, none⟩) es.length cap ∧ es.length ≤ cap := by
  rcases id h.row.2 with ⟨rfl, hz⟩ | ⟨g, cap, cur, rfl, -, -, h1, -⟩
  · exact .inl ⟨rfl, List.eq_nil_of_length_eq_zero hz⟩
  · exact .inr ⟨g, cap, rfl, h1⟩
theorem steps_take {w : World} {A : Option Addr} {m c c' k : Nat} {l : List StepR} (h : StepsAt w (.slice A m c) l) (hk : k ≤ l.length) : StepsAt w (.slice A k c') (l.take k) := by
  have hl : (l.take k).length = k := by rw [List.length_take]; omega
  refine ⟨A, c', by rw [hl], fun j hj => ?_⟩
  rw [hl] at hj
  obtain ⟨p, hp, hs⟩ := steps_at h j (by omega)
  refine ⟨p, hp, ?_⟩
  rw [List.getElem_take]; exact hs
theorem steps_drop {w : World} {g m c c' k n : Nat} {l : List StepR} (h : StepsAt w (.slice (some ⟨g, 0, none⟩) m c) l) (hk : k ≤ l.length) (hn : n = l.length - k) : StepsAt w (.slice (some ⟨g, k * 9, none⟩) n c') (l.drop k) := by
  have hl : (l.drop k).length = n := by rw [List.length_drop, hn]
  refine ⟨_, c', by rw [hl], fun j hj => ⟨_, rfl, ?_⟩⟩
  rw [hl] at hj
  obtain ⟨p, hp, hs⟩ := steps_at h (k + j) (by omega)
  injection hp with hp
  subst hp
  have e1 : (⟨g, 0, none⟩ : Addr).add ((k + j) * 9) = ⟨g, (k + j) * 9, none⟩ := by unfold Addr.add; split <;> simp_all
  have e2 : (⟨g, k * 9, none⟩ : Addr).add (j * 9) = ⟨g, (k + j) * 9, none⟩ := by unfold Addr.add; split <;> simp_all <;> omega
  rw [e1] at hs
  rw [e2, List.getElem_drop]
  exact hs
theorem steps_none {w : World} {A : Option Addr} {c : Nat} {l : List StepR} (hl : l = []) : StepsAt w (.slice A 0 c) l := by
  subst hl
  exact ⟨A, c, rfl, fun j hj => absurd hj (by simp)⟩
theorem steps_drewN {w : World} {v : Value} {l : List StepR} (h : StepsAt w v l) (n : Nat) : StepsAt (w.drewN n) v l := h
theorem steps_zero {w : World} {A : Option Addr} {c n : Nat} {l : List StepR} (hl : l.length = n) (hn : n = 0) : StepsAt w (.slice A n c) l := by
  subst hn
  exact steps_none (List.eq_nil_of_length_eq_zero hl)
theorem decF_line : ∀ (L : List (List UInt8)) (n : Nat) (acc : List StepR), (decF L n acc).2.1 ≤ n + L.length
  | [], n, acc => by simp [decF]
  | l :: r, n, acc => by
    rw [decF, List.length_cons]
    split
    · have := decF_line r (n + 1) acc; omega
    · split
      · simp
      · split
        · simp
        · rename_i s hs
          have := decF_line r (n + 1) (acc ++ [s]); omega
theorem decO_line (t : ByteArray) (hs : t.size ≤ 1048577) : (decO t).2.1 ≤ 1048580 := by
  have hll : t.data.toList.length = t.size := Array.length_toList
  have h := decF_line (linL t.data.toList) 1 []
  have h2 := linL_len t.data.toList
  unfold decO
  omega
set_option maxRecDepth 100000 in
set_option maxHeartbeats 4000000 in
theorem lawByLines_any (one two : ByteArray) (w : World) (hs : one.size + two.size ≤ 1048576) (hM : MaxK w) :
    Calls Try.prog 6 #[.string one, .string two] w fun e W' => e = .returned (.bool true) ∧ Below w.heap.size w W' := by
  have hD0 := decode_any ⟨#[114, 111, 111, 116, 32, 55, 10]⟩ w (by decide) hM
  have e10 : (⟨#[10]⟩ : ByteArray).size = 1 := rfl
  have hfz : (one ++ ⟨#[10]⟩ : ByteArray).size = one.size + 1 := by rw [ByteArray.size_append, e10]
  have hboth := decO_both one two
  obtain ⟨X, hX⟩ : ∃ X : ByteArray, Hid (one ++ ⟨#[10]⟩ = X) := ⟨_, Lib.hid rfl⟩
  have hcnt : Hid ((linL X.data.toList).length = X.data.toList.count 10) := Lib.hid (by
    have e1 : X.data.toList = one.data.toList ++ [10] := by rw [← hX.out, ByteArray.data_append, Array.toList_append]
    rw [e1, linL_first, splL_count, List.count_append]; rfl)
  rw [hX.out] at hboth hfz
  have hbs : (X ++ two : ByteArray).size = X.size + two.size := ByteArray.size_append
  have y1 : ¬ 9223372036854775807 < one.size + 1 := by omega
  have y2 : ¬ 9223372036854775807 < X.size + two.size := by omega
  have HD0 := hide hD0; have HM := hide hM; have HB := hide hboth
  clear hD0 hM hboth
  go_enter Try.func6, Try.ntmps6
  go_wp2_with fail
  refine (unhide HD0).mono ?_
  rintro e0 w0 ⟨⟨v0, es0, rfl, he0, hX0⟩, hb0⟩
  rw [known_dec] at he0 ⊢
  obtain ⟨g, cap, g', cap', rfl, c0, c1, d0⟩ := known_at hX0 he0
  have H0 := hide hb0; clear hb0 hX0 he0 HD0
  have q1 : ((7 : Int) == 7) = true := rfl
  go_upto_region 5 with fail
  rw [hX.out]
  clear c0 c1 d0 q1
  have hD1 := decode_any X w0 (by omega) ((unhide HM).below (unhide H0) (unhide HM).lt)
  have HD1 := hide hD1; clear hD1
  go_wp2_with fail
  refine (unhide HD1).mono ?_
  rintro e1 w1 ⟨⟨v1, es1, rfl, he1, hX1⟩, hb1⟩
  have hbw1 := (unhide H0).trans (hb1.mono (unhide H0).size)
  obtain ⟨A1, k1, rfl, -⟩ := id hX1.steps
  have hS1 := hX1.steps
  rw [he1] at hS1 ⊢
  have hD2 := decode_any two w1 (by omega) ((unhide HM).below hbw1 (unhide HM).lt)
  have HD2 := hide hD2; have H1 := hide (And.intro hS1 hbw1); clear hD2 hS1 hbw1 hb1 hX1 HD1 H0 he1
  go_wp2_with fail
  refine (unhide HD2).mono ?_
  rintro e2 w2 ⟨⟨v2, es2, rfl, he2, hX2⟩, hb2⟩
  have hbw2 := (unhide H1).2.trans (hb2.mono (unhide H1).2.size)
  obtain ⟨A2, k2, rfl, -⟩ := id hX2.steps
  have hS2 := hX2.steps
  rw [he2] at hS2 ⊢
  have hD3 := decode_any (X ++ two) w2 (by omega) ((unhide HM).below hbw2 (unhide HM).lt)
  have HD3 := hide hD3; have H2 := hide (And.intro hS2 (And.intro hbw2 (stepsAt_below (unhide H1).1 hb2))); clear hD3 hS2 hbw2 hb2 hX2 HD2 H1 he2
  go_wp2_with fail
  refine (unhide HD3).mono ?_
  rintro e3 w3 ⟨⟨v3, es3, rfl, he3, hX3⟩, hb3⟩
  have hbw3 := (unhide H2).2.1.trans (hb3.mono (unhide H2).2.1.size)
  have hS3 := hX3.steps
  rw [he3] at hS3
  have hform := tws_form hX3
  have hl3 : es3.length = (decO (X ++ two)).1.length := by rw [← he3, List.length_map]
  rw [hl3] at hform
  have h1z := decF_err (linL X.data.toList) 1 []
  have h2z := decF_err (linL two.data.toList) 1 []
  have hsm1 := decO_small X (by omega)
  have hsm2 := decO_small two (by omega)
  have hln2 := decO_line two (by omega)
  change ((decO X).2.2 = 0 → (decO X).2.1 = 0) ∧ ((decO X).2.2 ≠ 0 → (decO X).1 = []) at h1z
  change ((decO two).2.2 = 0 → (decO two).2.1 = 0) ∧ ((decO two).2.2 ≠ 0 → (decO two).1 = []) at h2z
  have HS := hide (And.intro hS3 (And.intro (stepsAt_below (unhide H2).1 hb3) (And.intro (stepsAt_below (unhide H2).2.2 hb3) (And.intro hform (And.intro hsm1 hsm2))))); have HBW := hide hbw3
  have HZ := hide (And.intro h1z h2z)
  have hR := unhide HB
  clear hS3 hb3 hX3 hform hl3 h1z h2z hsm1 hsm2 hbw3 H2 HD3 he3 HB
  generalize decO (X ++ two) = R3 at *
  generalize decO X = R1 at *
  generalize decO two = R2 at *
  obtain ⟨L1, z1, c1⟩ := R1
  obtain ⟨L2, z2, c2⟩ := R2
  simp only at hR HS HZ hln2 ⊢
  by_cases hc1 : c1 = 0
  · rw [if_pos hc1] at hR
    have hz1 := (unhide HZ).1.1 hc1
    subst hc1
    subst hz1
    by_cases hc2 : c2 = 0
    · rw [if_pos hc2] at hR
      have hz2 := (unhide HZ).2.1 hc2
      subst hc2
      subst hz2
      subst hR
      simp only at HS ⊢
      clear HZ
      obtain ⟨hS3, hS2, hS1, hfo, hm1, hm2⟩ := unhide HS
      have hadd : (L1 ++ L2).length = L1.length + L2.length := List.length_append
      have htk : (L1 ++ L2).take L1.length = L1 := List.take_left ..
      have hdr : (L1 ++ L2).drop L1.length = L2 := List.drop_left ..
      rcases hfo with ⟨rfl, -⟩ | ⟨g, cp, rfl, hcp⟩
      · have h0 : (L1 ++ L2).length = 0 := by
          obtain ⟨Ax, cx, hv, -⟩ := hS3
          injection hv with _ h0 _
          exact h0.symm
        have hl1 : L1 = [] := List.eq_nil_of_length_eq_zero (by omega)
        have hl2 : L2 = [] := List.eq_nil_of_length_eq_zero (by omega)
        subst hl1
        subst hl2
        clear HS hS3 hS2 hS1 hm1 hm2 hadd htk hdr h0
        have hA := fun W (A : Option Addr) c (B : Option Addr) d => sameSteps_eq (.slice A 0 c) (.slice B 0 d) [] W (by simp) (fun s hs => absurd hs (by simp)) (steps_none rfl) (steps_none rfl)
        have HA := hide hA; clear hA
        go_wp2_with fail
        refine ((unhide HA) _ _ _ _ _).mono ?_
        rintro e4 w4 ⟨rfl, n4, rfl⟩
        go_wp2_with fail
        refine ((unhide HA) _ _ _ _ _).mono ?_
        rintro e5 w5 ⟨rfl, n5, rfl⟩
        go_wp2_with fail
        go_ret
        exact ⟨rfl, below_drewN (unhide HBW) (n4 + n5)⟩
      · rw [hadd] at hS3 hcp ⊢
        have hT := steps_take (c' := cp) (k := L1.length) hS3 (by rw [hadd]; omega)
        rw [htk] at hT
        have hC := sameSteps_eq _ _ L1 w3 hm1.1 hm1.2 hT hS1
        have hDz : ∀ v W, StepsAt W v L2 → StepsAt W (.slice A2 L2.length k2) L2 → Calls Try.prog 24 #[v, .slice A2 L2.length k2] W fun e w' => e = .returned (.bool true) ∧ ∃ n, w' = W.drewN n := fun v W ha hb => sameSteps_eq _ _ L2 W hm2.1 hm2.2 ha hb
        have hDr : ∀ c', StepsAt w3 (.slice (some ⟨g, L1.length * 9, none⟩) L2.length c') L2 := fun c' => by
          have h := steps_drop (k := L1.length) (n := L2.length) (c' := c') hS3 (by rw [hadd]; omega) (by rw [hadd]; omega)
          rwa [hdr] at h
        have HC := hide hC; have HD := hide (And.intro hDz (And.intro hDr hS2))
        clear hS3 hS2 hS1 htk hdr hT hC hDz hDr HS hadd
        obtain ⟨la, hla⟩ : ∃ la, L1.length = la := ⟨_, rfl⟩
        obtain ⟨lb, hlb⟩ : ∃ lb, L2.length = lb := ⟨_, rfl⟩
        rw [hla] at HC HD hcp hm1 ⊢
        rw [hlb] at HD hcp hm2 ⊢
        have t1 : (0 : Int) ≤ (la : Int) := by omega
        have t2 : (la : Int) ≤ (cp : Int) := by omega
        have t3 : (la : Int) ≤ (la : Int) + (lb : Int) := by omega
        have t4 : la ≤ 562949953421312 := hm1.1
        have t5 : lb ≤ 562949953421312 := hm2.1
        have t6 : ((la : Int) + (lb : Int) == (la : Int) + (lb : Int)) = true := beq_self_eq_true _
        have t7 : (la : Int) + (lb : Int) - (la : Int) = (lb : Int) := by omega
        have t8 : la + lb - la = lb := by omega
        have HLB := Lib.hid hlb
        clear hm1 hm2 hla hlb
        go_wp2_with fail
        refine (unhide HC).mono ?_
        rintro e4 w4 ⟨rfl, n4, rfl⟩
        go_wp2_with fail
        all_goals
          refine ((unhide HD).1 _ _ (by first | exact steps_drewN ((unhide HD).2.1 _) n4 | exact steps_zero (by have := HLB.out; omega) (by omega)) (steps_drewN (unhide HD).2.2 n4)).mono ?_
          rintro e5 w5 ⟨rfl, n5, rfl⟩
          go_wp2_with fail
          go_ret
          exact ⟨rfl, below_drewN (unhide HBW) (n4 + n5)⟩
    · rw [if_neg hc2] at hR
      subst hR
      simp only at HS ⊢
      have hL2 : L2 = [] := (unhide HZ).2.2 hc2
      subst hL2
      obtain ⟨A3, k3, rfl⟩ : ∃ A k, v3 = .slice A 0 k := by
        rcases (unhide HS).2.2.2.1 with ⟨rfl, -⟩ | ⟨g, cap, rfl, -⟩
        · exact ⟨_, _, rfl⟩
        · exact ⟨_, _, rfl⟩
      have q1 : ((c2 : Int) == 0) = false := by rw [beq_eq_false_iff_ne]; omega
      have q2 : ¬ (c2 : Int) = 0 := by omega
      have q3 : ((c2 : Int) == (c2 : Int)) = true := beq_self_eq_true _
      clear HS HZ hc2
      go_wp2_with fail
      go_loopw [18, 19] (fun nl i W => ∃ j : Nat, i = .int .i64 (j : Int) ∧ j ≤ X.size ∧ nl = .int .i64 (((X.data.toList.take j).count 10 : Nat) : Int) ∧ Hid (W = w3)) (fun _ i _ => X.size - (RowKit.intOf i).toNat)
      case atStart => exact ⟨0, rfl, by omega, rfl, Lib.hid rfl⟩
      case round =>
        obtain ⟨j, rfl, hj, rfl, hw⟩ := hrel
        have hw' := hw.out
        subst hw'
        have hXl : X.data.toList.length = X.size := Array.length_toList
        have hcl : (X.data.toList.take j).count 10 ≤ 1048577 := by
          have := List.count_le_length (a := (10 : UInt8)) (l := X.data.toList.take j)
          rw [List.length_take] at this
          omega
        rcases Nat.lt_or_ge j X.size with hlt | hge
        · have t0 : (0 : Int) ≤ (j : Int) := by omega
          have t1 : (j : Int) < (X.size : Int) := by omega
          have qb : j ≤ 1048577 := by omega
          have htk : Hid ((X.data.toList.take (j + 1)).count 10 = (X.data.toList.take j).count 10 + (if X[j] = 10 then 1 else 0)) := Lib.hid (by
            rw [List.take_succ_eq_append_getElem (by omega), List.count_append]
            congr 1
            rw [show X.data.toList[j] = X[j] from rfl, List.count_cons, List.count_nil]
            simp)
          generalize (X.data.toList.take j).count 10 = cn at *
          by_cases h10 : X[j] = 10
          · have p1 : ((X[j].toNat : Int) == 10) = true := by rw [h10]; rfl
            have p2 : (X[j].toNat : Int) = 10 := by rw [h10]; rfl
            have hk := htk.out
            rw [if_pos h10] at hk
            have HK := Lib.hid hk
            clear h10 htk hk
            go_wp2_with fail
            refine ⟨⟨j + 1, by go_num, by omega, ?_, Lib.hid (by first | trivial | rfl)⟩, by simp [RowKit.intOf]; omega⟩
            rw [HK.out]; go_num
          · have p1 : ((X[j].toNat : Int) == 10) = false := by
              rw [beq_eq_false_iff_ne]; exact fun e => h10 (UInt8.toNat_inj.1 (by show X[j].toNat = 10; omega))
            have p2 : ¬ (X[j].toNat : Int) = 10 := by rw [beq_eq_false_iff_ne] at p1; exact p1
            have hk := htk.out
            rw [if_neg h10, Nat.add_zero] at hk
            have HK := Lib.hid hk
            clear h10 htk hk
            go_wp2_with fail
            refine ⟨⟨j + 1, by go_num, by omega, ?_, Lib.hid (by first | trivial | rfl)⟩, by simp [RowKit.intOf]; omega⟩
            rw [HK.out]; rfl
        · have t1 : ¬ (j : Int) < (X.size : Int) := by omega
          obtain rfl : j = X.size := by omega
          have hfull : X.data.toList.take X.size = X.data.toList := List.take_of_length_le (by omega)
          rw [hfull] at hcl ⊢
          rw [hcnt.out]
          obtain ⟨cn, hcn⟩ : ∃ cn, Hid (X.data.toList.count 10 = cn) := ⟨_, Lib.hid rfl⟩
          rw [hcn.out] at hcl ⊢
          clear hfull
          have e3 : ((z2 : Int) + (cn : Int) == (cn : Int) + (z2 : Int)) = true := by rw [beq_iff_eq]; omega
          have e4 : (z2 : Int) + (cn : Int) = (cn : Int) + (z2 : Int) := by omega
          have e5 : ((z2 + cn : Nat) : Int) = (cn : Int) + (z2 : Int) := by omega
          rw [e5]
          have e6 : ((cn : Int) + (z2 : Int) == (cn : Int) + (z2 : Int)) = true := beq_self_eq_true _
          clear e3 e4 e5
          go_wp2_with fail
          go_ret
          exact ⟨rfl, unhide HBW⟩
  · rw [if_neg hc1] at hR
    subst hR
    have hL1 : L1 = [] := (unhide HZ).1.2 hc1
    subst hL1
    have q1 : ((c1 : Int) == 0) = false := by rw [beq_eq_false_iff_ne]; omega
    have q2 : ¬ (c1 : Int) = 0 := by omega
    have q3 : ((c1 : Int) == (c1 : Int)) = true := beq_self_eq_true _
    have q4 : ((z1 : Int) == (z1 : Int)) = true := beq_self_eq_true _
    obtain ⟨A3, k3, rfl⟩ : ∃ A k, v3 = .slice A 0 k := by
      rcases (unhide HS).2.2.2.1 with ⟨rfl, -⟩ | ⟨g, cap, rfl, -⟩
      · exact ⟨_, _, rfl⟩
      · exact ⟨_, _, rfl⟩
    clear HS HZ hc1
    go_wp2_with fail
    go_ret
    exact ⟨rfl, unhide HBW⟩
set_option maxRecDepth 100000 in
theorem playByLines_walk {H : Type} {enc : TypeId × Value → H} (W : World) (base : Nat) (v0 : Value) (d0 : DataW H) (p0 : List MemPlace) (v1 : Value) (d1 : DataW H) (p1 : List MemPlace) (o0 : Value.okWide Try.prog W .any base 9 v0) (h0 : DataW.Trod enc Try.prog W 0 (fun _ => true) true 9 v0 d0 p0) (l0 : ∀ x ∈ p0, x.block < W.heap.size) (o1 : Value.okWide Try.prog W .any base 9 v1) (h1 : DataW.Trod enc Try.prog W 0 (fun _ => true) true 9 v1 d1 p1) (l1 : ∀ x ∈ p1, x.block < W.heap.size) (hz : (DataW.weightsEach Try.prog [9, 9] ([d0, d1] : List (DataW H))).all (· ≤ reachBytes) = true) (hk : Rows.uptoBulkAll ([d0, d1] : List (DataW H)) ≤ 1048576) (hsh : W.ShapedOpen Try.prog) :
    Calls Try.prog 6 #[v0, v1] W fun e W' => e = .returned (.bool true) ∧ Below W.heap.size W W' := by
  obtain ⟨s, rfl, rfl, -⟩ := Go.ChangeMaps.open_string Try.underlying9 o0 h0
  obtain ⟨s2, rfl, rfl, -⟩ := Go.ChangeMaps.open_string Try.underlying9 o1 h1
  simp only [Rows.uptoBulkAll, Rows.uptoBulk, Array.length_toList] at hk
  have hsz : s.data.size = s.size := rfl
  have hsz2 : s2.data.size = s2.size := rfl
  exact lawByLines_any s s2 W (by omega) (max_k hsh)
end Go.Proofs.Ytaomecinemmdgaa

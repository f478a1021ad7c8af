/-
  CONTRACT of front.Told.
-/
import Derived.Test.YtnkioabdpploeaaGreatDoorRows
import Derived.Test.YtnkioabdpploeaaGreatDoorGBase
import Derived.Test.YtnkioabdpploeaaGreatDoorSFToldA
import Derived.Test.YtnkioabdpploeaaGreatDoorSFTell
import Derived.Test.YtnkioabdpploeaaGreatDoorSFNums
import Derived.Test.YtnkioabdpploeaaGreatDoorGTld
import Derived.Test.YtnkioabdpploeaaGreatDoorSRStep
import Derived.Test.YtnkioabdpploeaaGreatDoorGApt
set_option linter.unusedVariables false
set_option linter.unusedSimpArgs false
namespace Go.Proofs.YtnkioabdpploeaaGreatDoor
open Go.RowKit Go.Lib
set_option maxRecDepth 100000 in
set_option maxHeartbeats 4000000 in
theorem ftold_big (s : ByteArray) (w : World) (hs : s.size ≤ 33554432) :
    Calls Tryz.prog 17 #[.string s] w fun e w' => TolR w' w.heap.size s e ∧ Below w.heap.size w w' := by
  have hb0 : Below w.heap.size w (w.alloc (.cells (repC 0 (.slice none 0 0) (.slice none 0 0)) 44)) := (Below.refl _ _).alloc (Nat.le_refl _) _
  have hB0 := Blk.new w 44 (repC 0 (.slice none 0 0) (.slice none 0 0))
  have htw := twords_any s (w.alloc (.cells (repC 0 (.slice none 0 0) (.slice none 0 0)) 44)) (by omega)
  have H0 := hide (And.intro hb0 hB0); have HT := hide htw; clear hb0 hB0 htw
  go_enter Tryz.func17, Tryz.ntmps17
  go_wp2_with fail
  refine (unhide HT).mono ?_
  rintro e1 w1 ⟨hW, hb1⟩
  have hX1 : TX w w1 (repC 0 (.slice none 0 0) (.slice none 0 0)) := TX.next ⟨(unhide H0).1, (unhide H0).2⟩ hb1
  have hz1 : w.heap.size + 1 ≤ (w.alloc (.cells (repC 0 (.slice none 0 0) (.slice none 0 0)) 44)).heap.size := by simp
  have c0 := hX1.x.cell 0; have c1 := hX1.x.cell 1; have c2 := hX1.x.cell 2
  have f0 := hX1.x.frozen 0; have f1 := hX1.x.frozen 1; have f2 := hX1.x.frozen 2
  simp only [repC, List.getElem?_toArray, List.getElem?_cons_zero, List.getElem?_cons_succ] at c0 c1 c2
  have H1 := hide hX1; clear hX1
  rcases hW with ⟨ws, v, hw, rfl, hO⟩ | ⟨hw, rfl⟩
  · obtain ⟨hwz, hwl⟩ := wdsL_size hw
    have hO1 : OwnT w1 (w.heap.size + 1) v ws := ownT_mono hO hz1
    clear hO hb1 H0 HT hz1
    have hwl2 : ws.length ≤ 33554433 := by omega
    rcases Nat.lt_or_ge ws.length 2 with hl | hl
    · obtain ⟨Aw, cw, rfl, -⟩ := id (ownT_strs hO1)
      have t1 : (ws.length : Int) < 2 := by omega
      have hr := Lib.hid (told_none2 hw hl)
      clear hO1 hw hwz hwl
      go_wp2_with fail
      (try simp only [Exit.inBlock, Exit.then])
      refine bodyPost_ret (results_reply rfl _ _ w.heap.size _ _ _ rfl (blk3_put (unhide H1).x _ _ _)) rfl ?_
      exact ⟨.inr ⟨hr.out, rfl⟩, below3_put (unhide H1).b (Nat.le_refl _) _ _ _⟩
    · rcases hO1.form with ⟨_, he⟩ | ⟨g, cap, rfl, hg1, hg2, hcap⟩
      · exact absurd hl (by rw [he]; simp)
      have t1 : ¬ (ws.length : Int) < 2 := by omega
      have t3 : (2 : Int) ≤ (cap : Int) := by omega
      have hS := ownT_strs hO1
      have hS2 : ∀ c, StrsAt w1 (.slice (some ⟨g, 0, none⟩) 2 c) (ws.take 2) := fun c => by
        have h := strs_sub hS 0 2 c (by omega)
        rwa [List.drop_zero] at h
      have hnm := fun c => fnums_any _ (ws.take 2) w1 (hS2 c) (fun x hx => by have := hwz x (List.mem_of_mem_take hx); omega) (by rw [List.length_take]; omega)
      have HNM := hide hnm; have HS := hide (And.intro hS hwz); have HO := hide hO1
      clear hnm hS hS2 hO1 hwz
      go_wp2_with fail
      refine ((unhide HNM) _).mono ?_
      rintro e2 w2 ⟨hF, hb2⟩
      have hX2 := (unhide H1).next hb2
      have a0 := hX2.x.cell 0; have a1 := hX2.x.cell 1; have a2 := hX2.x.cell 2
      have g0 := hX2.x.frozen 0; have g1 := hX2.x.frozen 1; have g2 := hX2.x.frozen 2
      simp only [repC, List.getElem?_toArray, List.getElem?_cons_zero, List.getElem?_cons_succ] at a0 a1 a2
      have H2 := hide hX2; clear hX2 c0 c1 c2 f0 f1 f2
      rcases hF with ⟨hd, vh, hh, rfl, hOh⟩ | ⟨hh, rfl⟩
      · obtain rfl := nums_two hl hh
        obtain ⟨gh, ch, rfl, q0, q1⟩ := ownI2 hOh
        obtain ⟨kk, hkk⟩ : ∃ kk, Hid (numV (ws.getD 1 ⟨#[]⟩) = kk) := ⟨_, Lib.hid rfl⟩
        obtain ⟨cc, hcc⟩ : ∃ cc, Hid (numV (ws.getD 0 ⟨#[]⟩) = cc) := ⟨_, Lib.hid rfl⟩
        rw [hkk.out] at q1
        rw [hcc.out] at q0
        have hin : In64 kk := by rw [← hkk.out]; exact numV_in _
        by_cases hk : 0 ≤ kk ∧ kk ≤ (ws.length : Int) - 2
        · obtain ⟨kn, rfl⟩ : ∃ kn : Nat, kk = (kn : Int) := ⟨kk.toNat, by omega⟩
          have hkl : kn + 2 ≤ ws.length := by omega
          have t4 : ¬ (kn : Int) < 0 := by omega
          have t5 : ¬ (ws.length : Int) - 2 < (kn : Int) := by omega
          have t6 : (2 : Int) ≤ 2 + (kn : Int) := by omega
          have t7 : (2 : Int) + (kn : Int) ≤ (cap : Int) := by omega
          have t8 : (2 : Int) + (kn : Int) - 2 = (kn : Int) := by omega
          have t9 : kn ≤ 33554433 := by omega
          have t10 : 2 + kn - 2 = kn := by omega
          have hS2 := (unhide HS).1.below hb2
          have hsub : ∀ A c, A = some ⟨g, 2, none⟩ ∨ kn = 0 → StrsAt w2 (.slice A kn c) ((ws.drop 2).take kn) := fun A c h => by
            rcases h with rfl | rfl
            · exact strs_sub hS2 2 kn c (by omega)
            · exact strs_nil
          have hnm := fun A c h => fnums_any _ ((ws.drop 2).take kn) w2 (hsub A c h) (fun x hx => by have := (unhide HS).2 x (List.mem_of_mem_drop (List.mem_of_mem_take hx)); omega) (by rw [List.length_take]; omega)
          have HNM2 := hide hnm
          have hO2 := (row_low hOh (fun k hk => (World.ownsRow.lt hOh k hk).2) (Below.refl _ _) : OwnI w2 w1.heap.size _ _)
          have HS2 := hide hS2; have HOH := hide hOh
          have HO2 := hide (OwnT.below (unhide HO) hb2)
          clear hnm hsub hS2 hOh hO2 hb2 HNM hin
          obtain ⟨m2, hm2⟩ : ∃ m2, Hid (2 + kn = m2) := ⟨_, Lib.hid rfl⟩
          have hm2' : 2 + kn = m2 := hm2.out
          have hml : m2 ≤ ws.length := by omega
          have hdr : ∀ W, StrsAt W (.slice (some ⟨g, 0, none⟩) ws.length cap) ws → ∀ A c, A = some ⟨g, m2, none⟩ ∨ ws.length - m2 = 0 → StrsAt W (.slice A (ws.length - m2) c) (ws.drop m2) := fun W hW A c h => by
            have e : (ws.drop m2).take (ws.length - m2) = ws.drop m2 := List.take_of_length_le (by rw [List.length_drop]; omega)
            rcases h with rfl | h0
            · have h := strs_sub hW m2 (ws.length - m2) c (by omega)
              rwa [e] at h
            · have e2 : ws.drop m2 = [] := List.eq_nil_of_length_eq_zero (by rw [List.length_drop]; exact h0)
              rw [h0, e2]; exact strs_nil
          obtain ⟨P0, hif⟩ : ∃ P0, (if cap = m2 then some (⟨g, 0, none⟩ : Addr) else some ⟨g, m2, none⟩) = P0 := ⟨_, rfl⟩
          have hst : ∀ W, StrsAt W (.slice (some ⟨g, 0, none⟩) ws.length cap) ws → ∀ c, StrsAt W (.slice P0 (ws.length - m2) c) (ws.drop m2) := fun W hW c => hdr W hW _ _ (by
            rw [← hif]
            by_cases h : cap = m2
            · rw [if_pos h]; right; omega
            · rw [if_neg h]; left; rfl)
          have hwm : IntKind.i64.wrap (2 + (kn : Int)) = (m2 : Int) := by simp [IntKind.wrap, IntKind.bits]; omega
          have hml2 : (m2 : Int) ≤ (ws.length : Int) := by omega
          have HDR := hide hst; have HIF := hide hif; have HWM := Lib.hid hwm; clear hdr hst hif hwm hm2'
          by_cases hcp : cap = 2
          all_goals
            go_wp2_with fail
            refine ((unhide HNM2) _ _ (by first | exact Or.inl rfl | exact Or.inr (by omega))).mono ?_
            rintro e3 w3 ⟨hF3, hb3⟩
            have hX3 := (unhide H2).next hb3
            have hO3 : OwnI w3 w1.heap.size (.slice (some ⟨gh, 0, none⟩) 2 ch) _ := row_low (unhide HOH) (fun k hk => (World.ownsRow.lt (unhide HOH) k hk).2) hb3
            obtain ⟨gh', ch', hv, b0, b1⟩ := ownI2 hO3
            injection hv with hv1 hv2 hv3
            injection hv1 with hv1
            injection hv1 with hv1
            subst hv1
            rw [hcc.out] at b0
            rw [hkk.out] at b1
            have hS3 := (unhide HS2).below hb3
            have hghb : gh < w3.heap.size := World.block_lt_of_cell? w3 _ b0
            have m0 := World.new_ne w3 _ b0
            have m1 := World.new_ne w3 _ b1
            have H3 := hide (And.intro hX3 (And.intro hO3 hS3)); have HL2 := Lib.hid (unhide H2).x.lt
            clear hX3 hO3 hS3 q0 q1 a0 a1 a2 g0 g1 g2 H1 H2 HOH HS2 HO2 HO HNM2
            have hif := unhide HIF; have hwm := HWM.out
            (try rw [hcp] at hif)
            have hform : ∃ AN mN cN bN, e3 = .returned (.tuple #[.slice AN mN cN, .bool bN]) := by
              rcases hF3 with ⟨ns, vN, hns, rfl, hoN⟩ | ⟨hns, rfl⟩
              · obtain ⟨AN, cN, rfl, -⟩ := id hoN.ints
                exact ⟨_, _, _, _, rfl⟩
              · exact ⟨_, _, _, _, rfl⟩
            obtain ⟨AN, mN, cN, bN, rfl⟩ := hform
            have HF3 := hide hF3; have HB3 := hide hb3; clear hF3 hb3
            go_upto_region 8 with fail
            have hdl : (ws.drop m2).length ≤ 1099511627776 := by rw [List.length_drop]; omega
            have HDL := Lib.hid hdl; clear hdl
            have hsa := ((unhide H3).2.2).below ((Below.refl w3.heap.size w3).alloc (Nat.le_refl _) (.cells #[.int .i64 0, .slice none 0 0, .slice none 0 0] 44))
            have HSA := hide (unhide HDR _ hsa); clear hsa
            have hZ := Blk.new w3 44 #[.int .i64 0, .slice none 0 0, .slice none 0 0]
            have HZ := hide hZ; clear hZ
            have hb0 := (World.cell?_alloc_lt w3 (.cells #[.int .i64 0, .slice none 0 0, .slice none 0 0] 44) ⟨gh, 0, none⟩ hghb).trans b0
            have HB0 := hide hb0; clear hb0
            go_cut [9] (fun s9 wx => ∃ g9 A4 c4, s9 = .pointer (some ⟨g9, 0, none⟩) ∧ Hid (T9 w w3 wx g9 cc (.slice AN mN cN) (.slice A4 (ws.length - m2) c4) (ws.drop m2)))
            case first =>
              go_region_law (first
                | (refine step_appT w3.drew rfl _ _ rfl (OwnT.nil _ w3.heap.size) rfl (unhide HDR _ (unhide H3).2.2 _).drew rfl (by have := HDL.out; simp; omega) (Nat.le_refl _) ?_; intro v4 w4 hO4 hg4 hat4; obtain ⟨A4, c4, rfl, -⟩ := id (ownT_strs hO4); have y0 : w4.cell? ⟨gh, 0, none⟩ = some (.int .i64 cc) := World.grownBy.cell hg4 (a := ⟨gh, 0, none⟩) b0 (by simp [Value.ownBlock]); have y1 := World.new_ne w4 _ y0; have y2 := (World.cell?_alloc_lt w4 (.cells #[.int .i64 0, .slice none 0 0, .slice none 0 0] 44) ⟨gh, 0, none⟩ (World.block_lt_of_cell? w4 _ y0)).trans y0; simp only [List.nil_append, List.length_drop] at hO4; have HO4 := hide (t9_A (c := cc) (vN := .slice AN mN cN) (unhide H3).1 hO4 hg4); clear hO4 hg4 hat4)
                | (refine step_appT (w3.alloc (.cells #[.int .i64 0, .slice none 0 0, .slice none 0 0] 44)).drew rfl _ _ rfl (OwnT.nil _ w3.heap.size) rfl (unhide HSA _).drew rfl (by have := HDL.out; simp; omega) (by show w3.heap.size ≤ (w3.alloc _).heap.size; simp) ?_; intro v4 w4 hO4 hg4 hat4; obtain ⟨A4, c4, rfl, -⟩ := id (ownT_strs hO4); have y0 : w4.cell? ⟨gh, 0, none⟩ = some (.int .i64 cc) := World.grownBy.cell hg4 (a := ⟨gh, 0, none⟩) (unhide HB0) (by simp [Value.ownBlock]); have y1 := World.new_ne w4 _ y0; have hZ4 := ((unhide HZ).drew).grown hg4 (by simp [Value.ownBlock]); have z0 := hZ4.cell 0; have z1 := hZ4.cell 1; have z2 := hZ4.cell 2; have f0 := hZ4.frozen 0; have f1 := hZ4.frozen 1; have f2 := hZ4.frozen 2; simp only [List.getElem?_toArray, List.getElem?_cons_zero, List.getElem?_cons_succ] at z0 z1 z2; simp only [List.nil_append, List.length_drop] at hO4; have HO4 := hide (t9_B (cs := #[]) (c := cc) (vN := .slice AN mN cN) (unhide H3).1 hO4 hg4 hZ4); clear hO4 hg4 hat4 hZ4))
              all_goals
                go_wp2_with fail
                go_meet
                case rel => exact ⟨_, A4, c4, rfl, Lib.hid (unhide HO4)⟩
            case rest =>
              obtain ⟨g9, A4, c4, rfl, hT⟩ := hcut
              have hT' := hT.out
              have r0 := hT'.r.cell 0; have r1 := hT'.r.cell 1; have r2 := hT'.r.cell 2
              have z0 := hT'.x.x.cell 0; have z1 := hT'.x.x.cell 1; have z2 := hT'.x.x.cell 2
              have f0 := hT'.x.x.frozen 0; have f1 := hT'.x.x.frozen 1; have f2 := hT'.x.x.frozen 2
              simp only [repC, List.getElem?_toArray, List.getElem?_cons_zero, List.getElem?_cons_succ] at r0 r1 r2 z0 z1 z2
              clear hT' b0 b1 m0 m1 HDR HSA HZ HB0
              rcases unhide HF3 with ⟨ns, vN, hns, he, hoN⟩ | ⟨hns, he⟩
              · simp only [Ending.returned.injEq, Value.tuple.injEq, Array.mk.injEq, List.cons.injEq, and_true, Value.bool.injEq] at he
                obtain ⟨rfl, rfl⟩ := he
                have hN : IntsAt wc (.slice AN mN cN) ns := hoN.ints.below hT.out.b
                have hmN : mN = ns.length := by obtain ⟨A', c', hv, -⟩ := hN; injection hv
                subst hmN
                have hS := ownT_strs hT.out.t
                have htk : takeR ws = ⟨cc, ns, ws.drop m2⟩ := by
                  unfold takeR; rw [hkk.out, hcc.out, show (kn : Int).toNat = kn from rfl, numsO_map hns, hm2.out]
                have hok := takeR_big hw hl (by rw [hkk.out]; exact hk) hs
                have hlast := told_last hw hl (by rw [hkk.out]; exact hk)
                rw [htk] at hok hlast
                have hcall := ftell_any ⟨cc, ns, ws.drop m2⟩ _ _ wc hN hS hok
                obtain ⟨T, hTT⟩ : ∃ T, Hid (tellB ⟨cc, ns, ws.drop m2⟩ = T) := ⟨_, Lib.hid rfl⟩
                rw [hTT.out] at hcall hlast
                simp only at hcall
                obtain ⟨S, hSS⟩ : ∃ S, Hid (ws.drop m2 = S) := ⟨_, Lib.hid rfl⟩
                have hT2 := hT.out
                rw [hSS.out] at hlast hT2
                have HC := hide hcall; have HL := Lib.hid hlast; have HT2 := hide hT2; have HON := hide hoN
                clear hcall hlast hT2 hok htk hN hS hoN hns hT HF3 hh hw hk
                go_wp2_with fail
                refine (unhide HC).mono ?_
                rintro e6 w6 ⟨rfl, hb6⟩
                have hX6 := (unhide HT2).x.next hb6
                have hR6 := (unhide HT2).r.below hb6 (unhide HT2).r.lt
                have hS6 := (unhide HT2).t.below hb6
                have hN6 : OwnI w6 w2.heap.size (.slice AN ns.length cN) ns := row_low (row_low (unhide HON) (fun k hk => (World.ownsRow.lt (unhide HON) k hk).2) (unhide HT2).b) (fun k hk => Nat.lt_of_lt_of_le (World.ownsRow.lt (unhide HON) k hk).2 (unhide HT2).b.size) hb6
                have hb36 := (unhide HT2).b.size
                have q0 := hR6.cell 0; have q1 := hR6.cell 1; have q2 := hR6.cell 2
                have z0 := hX6.x.cell 0; have z1 := hX6.x.cell 1; have z2 := hX6.x.cell 2
                have f0 := hX6.x.frozen 0; have f1 := hX6.x.frozen 1; have f2 := hX6.x.frozen 2
                simp only [repC, List.getElem?_toArray, List.getElem?_cons_zero, List.getElem?_cons_succ] at q0 q1 q2 z0 z1 z2
                have H6 := hide (And.intro hX6 (And.intro hN6 hS6))
                have hb23 := Lib.hid (unhide HB3).size
                clear hX6 hR6 hS6 hN6 hb6 HC hb36 r0 r1 r2
                by_cases hts : T = s
                · have y1 : (T.toList == s.toList) = true := by rw [hts]; exact beq_self_eq_true _
                  have y2 : T.toList = s.toList := by rw [hts]
                  have hr : Hid (toldO s = some ⟨cc, ns, S⟩) := Lib.hid (by rw [HL.out, if_pos hts])
                  clear hts HL
                  go_wp2_with fail
                  (try simp only [Exit.inBlock, Exit.then])
                  refine bodyPost_ret (results_reply rfl _ _ w.heap.size _ _ _ rfl (blk3_put (unhide H6).1.x _ _ _)) rfl ?_
                  have hend := rd_end (w := w) (unhide H6).2.1 (row_mono (unhide H6).2.2 hb23.out) HL2.out (.int .i64 cc) (.slice AN ns.length cN) (.slice A4 (ws.length - m2) c4)
                  exact ⟨.inl ⟨⟨cc, ns, S⟩, _, _, hr.out, rfl, hend.1, hend.2⟩, below3_put (unhide H6).1.b (Nat.le_refl _) _ _ _⟩
                · have y1 : (T.toList == s.toList) = false := toList_ne hts
                  have y2 : ¬ T.toList = s.toList := by rw [beq_eq_false_iff_ne] at y1; exact y1
                  have hr : Hid (toldO s = none) := Lib.hid (by rw [HL.out, if_neg hts])
                  clear hts HL
                  go_wp2_with fail
                  (try simp only [Exit.inBlock, Exit.then])
                  refine bodyPost_ret (results_reply rfl _ _ w.heap.size _ _ _ rfl (blk3_put (unhide H6).1.x _ _ _)) rfl ?_
                  exact ⟨.inr ⟨hr.out, rfl⟩, below3_put (unhide H6).1.b (Nat.le_refl _) _ _ _⟩
              · simp only [Ending.returned.injEq, Value.tuple.injEq, Array.mk.injEq, List.cons.injEq, and_true, Value.bool.injEq, Value.slice.injEq] at he
                obtain ⟨⟨rfl, rfl, rfl⟩, rfl⟩ := he
                have hr := Lib.hid (told_bad2 hw hl (by omega) (by rw [hkk.out]; exact hk) (by rw [hkk.out]; exact hns))
                have HX := hide hT.out.x
                clear hT HF3 hns hh hw hk
                go_wp2_with fail
                (try simp only [Exit.inBlock, Exit.then])
                refine bodyPost_ret (results_reply rfl _ _ w.heap.size _ _ _ rfl (blk3_put (unhide HX).x _ _ _)) rfl ?_
                exact ⟨.inr ⟨hr.out, rfl⟩, below3_put (unhide HX).b (Nat.le_refl _) _ _ _⟩
        · have hr := Lib.hid (told_none3 hw hl (by rw [hkk.out]; omega))
          rcases Int.lt_or_le kk 0 with hk0 | hk0
          · clear HNM HS HO hh hw hOh hb2 hk hin
            go_wp2_with fail
            (try simp only [Exit.inBlock, Exit.then])
            refine bodyPost_ret (results_reply rfl _ _ w.heap.size _ _ _ rfl (blk3_put (unhide H2).x _ _ _)) rfl ?_
            exact ⟨.inr ⟨hr.out, rfl⟩, below3_put (unhide H2).b (Nat.le_refl _) _ _ _⟩
          · have hk1 : (ws.length : Int) - 2 < kk := by omega
            have hk2 : ¬ kk < 0 := by omega
            clear HNM HS HO hh hw hOh hb2 hk hin
            go_wp2_with fail
            (try simp only [Exit.inBlock, Exit.then])
            refine bodyPost_ret (results_reply rfl _ _ w.heap.size _ _ _ rfl (blk3_put (unhide H2).x _ _ _)) rfl ?_
            exact ⟨.inr ⟨hr.out, rfl⟩, below3_put (unhide H2).b (Nat.le_refl _) _ _ _⟩
      · have hr := Lib.hid (told_bad1 hw hl (by omega) hh)
        clear hb2 HNM HS HO hh hw
        go_wp2_with fail
        (try simp only [Exit.inBlock, Exit.then])
        refine bodyPost_ret (results_reply rfl _ _ w.heap.size _ _ _ rfl (blk3_put (unhide H2).x _ _ _)) rfl ?_
        exact ⟨.inr ⟨hr.out, rfl⟩, below3_put (unhide H2).b (Nat.le_refl _) _ _ _⟩
  · clear hb1 H0 HT hz1
    go_wp2_with fail
    (try simp only [Exit.inBlock, Exit.then])
    refine bodyPost_ret (results_reply rfl _ _ w.heap.size _ _ _ rfl (blk3_put (unhide H1).x _ _ _)) rfl ?_
    exact ⟨.inr ⟨told_none1 hw, rfl⟩, below3_put (unhide H1).b (Nat.le_refl _) _ _ _⟩
end Go.Proofs.YtnkioabdpploeaaGreatDoor

/-
  CONTRACT of annalsref27.Asked.
-/
import Derived.Test.YtnkioabdpploeaaGreatDoorRows
import Derived.Test.YtnkioabdpploeaaGreatDoorGBase
import Derived.Test.YtnkioabdpploeaaGreatDoorSFCall
import Derived.Test.YtnkioabdpploeaaGreatDoorSRdC
set_option linter.unusedVariables false
set_option linter.unusedSimpArgs false
namespace Go.Proofs.YtnkioabdpploeaaGreatDoor
open Go.RowKit Go.Lib
set_option maxRecDepth 100000 in
set_option maxHeartbeats 4000000 in
theorem rasked27_any (s : ByteArray) (w : World) (hs : s.size ≤ 33554432) :
    Calls Tryz.prog 12 #[.string s] w fun e w' => CalR w' w.heap.size s e ∧ Below w.heap.size w w' := by
  have hb0 : Below w.heap.size w (w.alloc (.cells (calC ⟨#[]⟩ (.slice none 0 0) (.slice none 0 0)) 25)) := (Below.refl _ _).alloc (Nat.le_refl _) _
  have hB0 := Blk.new w 25 (calC ⟨#[]⟩ (.slice none 0 0) (.slice none 0 0))
  have htw := rtwords_any s (w.alloc (.cells (calC ⟨#[]⟩ (.slice none 0 0) (.slice none 0 0)) 25)) (by omega)
  have H0 := hide (And.intro hb0 hB0); have HT := hide htw; clear hb0 hB0 htw
  go_enter Tryz.func12, Tryz.ntmps12
  go_wp2_with fail
  refine (unhide HT).mono ?_
  rintro e1 w1 ⟨hW, hb1⟩
  have hX1 : TXc w w1 (calC ⟨#[]⟩ (.slice none 0 0) (.slice none 0 0)) := TXc.next ⟨(unhide H0).1, (unhide H0).2⟩ hb1
  have hz1 : w.heap.size + 1 ≤ (w.alloc (.cells (calC ⟨#[]⟩ (.slice none 0 0) (.slice none 0 0)) 25)).heap.size := by simp
  have c0 := hX1.x.cell 0; have c1 := hX1.x.cell 1; have c2 := hX1.x.cell 2
  have f0 := hX1.x.frozen 0; have f1 := hX1.x.frozen 1; have f2 := hX1.x.frozen 2
  simp only [calC, List.getElem?_toArray, List.getElem?_cons_zero, List.getElem?_cons_succ] at c0 c1 c2
  have H1 := hide hX1; clear hX1
  rcases hW with ⟨ws, v, hw, rfl, hO⟩ | ⟨hw, rfl⟩
  · obtain ⟨hwz, hwl⟩ := wdsL_size hw
    have hO1 : OwnT w1 (w.heap.size + 1) v ws := ownT_mono hO hz1
    clear hO hb1 H0 HT hz1
    have hwl2 : ws.length ≤ 33554433 := by omega
    rcases hO1.form with ⟨rfl, he⟩ | ⟨g, cap, rfl, hg1, hg2, hcap⟩
    · subst he
      have hr := Lib.hid (call_none2 hw)
      clear hO1 hw hwz hwl
      go_wp2_with fail
      (try simp only [Exit.inBlock, Exit.then])
      refine bodyPost_ret (results_call rfl _ _ w.heap.size _ _ _ rfl (blk3_put (unhide H1).x _ _ _)) rfl ?_
      exact ⟨.inr ⟨hr.out, rfl⟩, below3_put (unhide H1).b (Nat.le_refl _) _ _ _⟩
    · by_cases hwe : ws = []
      · subst hwe
        have hr := Lib.hid (call_none2 hw)
        clear hO1 hw hwz hwl
        go_wp2_with fail
        (try simp only [Exit.inBlock, Exit.then])
        refine bodyPost_ret (results_call rfl _ _ w.heap.size _ _ _ rfl (blk3_put (unhide H1).x _ _ _)) rfl ?_
        exact ⟨.inr ⟨hr.out, rfl⟩, below3_put (unhide H1).b (Nat.le_refl _) _ _ _⟩
      have hl : 1 ≤ ws.length := by
        cases ws with
        | nil => exact absurd rfl hwe
        | cons x r => simp
      have t1 : ¬ (ws.length : Int) = 0 := by omega
      have t2 : ((ws.length : Int) == 0) = false := by rw [beq_eq_false_iff_ne]; omega
      have t3 : (0 : Int) < (ws.length : Int) := by omega
      have hS := ownT_strs hO1
      have q0 := World.ownsRow.cellAt hO1 0 (by omega)
      rw [List.getElem?_map, List.getElem?_eq_getElem (by omega), Option.map_some] at q0
      have e0 : ws.getD 0 ⟨#[]⟩ = ws[0] := by rw [List.getD_eq_getElem?_getD, List.getElem?_eq_getElem (by omega)]; rfl
      rw [← e0] at q0
      obtain ⟨nm, hnm⟩ : ∃ nm, Hid (ws.getD 0 ⟨#[]⟩ = nm) := ⟨_, Lib.hid rfl⟩
      rw [hnm.out] at q0
      have hsc := fun W => rshape_any nm W
      have hX2 : RdXc w1 (w1.alloc (.cells (calC nm (.slice none 0 0) (.slice none 0 0)) 25)) nm (.slice none 0 0) (.slice none 0 0) [] [] := ⟨Blk.new _ _ _, World.ownsRow_nil _ _ _ _, World.ownsRow_nil _ _ _ _, (Below.refl _ _).alloc (Nat.le_refl _) _⟩
      have s0 := hX2.s.cell 0
      have hX2z := (unhide H1).next hX2.b
      have c0 := hX2z.x.cell 0; have c1 := hX2z.x.cell 1; have c2 := hX2z.x.cell 2
      have f0 := hX2z.x.frozen 0; have f1 := hX2z.x.frozen 1; have f2 := hX2z.x.frozen 2
      simp only [calC, List.getElem?_toArray, List.getElem?_cons_zero, List.getElem?_cons_succ] at s0 c0 c1 c2
      have HX := hide hX2; have HS := hide (And.intro hS hwz); have HO := hide hO1; have HSC := hide hsc; have HZ := hide hX2z
      clear hX2 hS hwz hO1 hsc e0 hX2z
      go_wp2_with fail
      refine ((unhide HSC) _).mono ?_
      rintro e2 w2 ⟨⟨k, m, ok, hsh, hk2, hm1, rfl⟩, rfl⟩
      have HSH := Lib.hid hsh
      clear hsh HSC q0
      generalize (w1.alloc (.cells (calC nm (.slice none 0 0) (.slice none 0 0)) 25)) = w5 at *
      rcases HSH.out with ⟨rfl, hs1⟩ | ⟨rfl, hs1⟩
      · rw [← hnm.out] at hs1
        by_cases hlen : ws.length = 1 + k + m
        · have t4 : (ws.length : Int) = 1 + (k : Int) + (m : Int) := by omega
          have t5 : ((ws.length : Int) != 1 + (k : Int) + (m : Int)) = false := by rw [t4]; simp
          have hlast := call_last hw hs1 hlen
          have hco := takeC_ok hs1 hlen
          have hssz : ∀ x ∈ (takeC k ws).ss, x.size ≤ s.size := fun x hx => (wdsL_size hw).1 x (List.mem_of_mem_drop hx)
          have htk : takeC k ws = ⟨nm, ((ws.drop 1).take k).map numV, ws.drop (1 + k)⟩ := by
            unfold takeC; rw [hnm.out]
          rw [htk] at hlast hco hssz
          obtain ⟨T, hT⟩ : ∃ T, Hid (callB ⟨nm, ((ws.drop 1).take k).map numV, ws.drop (1 + k)⟩ = T) := ⟨_, Lib.hid rfl⟩
          rw [hT.out] at hlast
          have HLAST := Lib.hid hlast; have HOK := hide (And.intro hco hssz)
          have hlen' : Hid (ws.length = 1 + k + m) := Lib.hid hlen
          clear hlast hco hssz htk hw hs1 hlen s0 c0 c1 c2 f0 f1 f2
          go_wp2_with fail
          clear t4 t5
          go_loopw [10, 11, 12] (fun i _ _ W => ∃ (j : Nat) (vn vs : Value) (N : List Int) (S : List ByteArray), i = .int .i64 (j : Int) ∧ 1 ≤ j ∧ j ≤ ws.length ∧ Hid (N = (((ws.drop 1).take k).take (j - 1)).map numV) ∧ Hid (S = (ws.drop (1 + k)).take (j - (1 + k))) ∧ RdXc w1 W nm vn vs N S) (fun i _ _ _ => ws.length - (RowKit.intOf i).toNat)
          case atStart => exact ⟨1, _, _, [], [], rfl, Nat.le_refl _, hl, Lib.hid (by simp), Lib.hid (by rw [show 1 - (1 + k) = 0 by omega]; rfl), unhide HX⟩
          case round =>
            obtain ⟨j, vn, vs, N, S, rfl, hj1, hj2, hN, hS, hX⟩ := hrel
            clear HX
            have s0 : (0 : Int) ≤ (j : Int) := by omega
            have jb : j ≤ 33554433 := by omega
            have hS5 := (unhide HS).1.below hX.b
            rcases Nat.lt_or_ge j ws.length with hlt | hge
            · have s1 : (j : Int) < (ws.length : Int) := by omega
              obtain ⟨ad, had, cw⟩ := strs_at hS5 j hlt
              injection had with had
              subst had
              have hadd : (⟨g, 0, none⟩ : Addr).add j = ⟨g, j, none⟩ := by unfold Addr.add; split <;> simp_all
              rw [hadd] at cw
              have hxz : ws[j].size ≤ 1099511627776 := by have := (unhide HS).2 _ (List.getElem_mem hlt); omega
              have hNl : Hid (N.length ≤ 1099511627776) := Lib.hid (by rw [hN.out, List.length_map, List.length_take, List.length_take, List.length_drop]; omega)
              have hSl : Hid (S.length ≤ 1099511627776) := Lib.hid (by rw [hS.out, List.length_take, List.length_drop]; omega)
              have r1 := hX.s.cell 1; have r2 := hX.s.cell 2; have fr1 := hX.s.frozen 1; have fr2 := hX.s.frozen 2
              simp only [calC, List.getElem?_toArray, List.getElem?_cons_zero, List.getElem?_cons_succ] at r1 r2
              obtain ⟨An, cn, rfl, -⟩ := id hX.n.ints
              obtain ⟨As, cs, rfl, -⟩ := id (ownT_strs hX.t)
              rcases Nat.lt_or_ge j (1 + k) with hjk | hjk
              · have s2 : (j : Int) ≤ (k : Int) := by omega
                have hnx : Hid ((((ws.drop 1).take k).take (j + 1 - 1)).map numV = N ++ [numV ws[j]]) := Lib.hid (by
                  rw [hN.out, show j + 1 - 1 = (j - 1) + 1 by omega, take_one ws 1 (j - 1) k (by omega) (by omega), List.map_append]
                  congr 2
                  simp only [show 1 + (j - 1) = j by omega, List.map_cons, List.map_nil])
                have hsx : Hid (S = (ws.drop (1 + k)).take (j + 1 - (1 + k))) := Lib.hid (by rw [hS.out, show j - (1 + k) = 0 by omega, show j + 1 - (1 + k) = 0 by omega])
                have hun := rundec_num ws[j] wr hxz
                generalize numV ws[j] = y at *
                generalize ws[j] = x at *
                have HU := hide hun; have HX := hide hX
                have hbase : Hid (w1.heap.size + 1 ≤ wr.heap.size) := Lib.hid hX.s.lt
                clear hun hX hN hS hS5 hxz
                go_wp2_with fail
                refine (unhide HU).mono ?_
                rintro e4 w4 ⟨⟨z4, rfl⟩, rfl⟩
                clear HU
                go_wp2_with (at_builtin; go_must (refine wpList_appI1 wr rfl _ _ rfl (unhide HX).n rfl rfl (by have := hNl.out; omega) hbase.out ?_); intro v1 w6 hO1 hg1 hat1; obtain ⟨A1, c1, rfl, -⟩ := id hO1.ints; have hs6 := (unhide HX).blkN hg1; have k1 := hs6.cell 1; have l1 := hs6.frozen 1; simp only [calC, List.getElem?_toArray, List.getElem?_cons_zero, List.getElem?_cons_succ] at k1; have H6 := hide ((unhide HX).appN hO1 hg1); clear hO1 hg1 hat1 hs6)
                exact ⟨⟨j + 1, _, _, N ++ [y], S, by go_num, by omega, by omega, Lib.hid hnx.out.symm, hsx, by simpa using unhide H6⟩, by simp [RowKit.intOf]; omega⟩
              · have s2 : ¬ (j : Int) ≤ (k : Int) := by omega
                have hnx : Hid (N = (((ws.drop 1).take k).take (j + 1 - 1)).map numV) := Lib.hid (by rw [hN.out, List.take_take, List.take_take]; congr 2; omega)
                have hsx : Hid ((ws.drop (1 + k)).take (j + 1 - (1 + k)) = S ++ [ws[j]]) := Lib.hid (by
                  rw [hS.out, show j + 1 - (1 + k) = (j - (1 + k)) + 1 by omega, List.take_succ_eq_append_getElem (by rw [List.length_drop]; omega), List.getElem_drop]
                  congr 2
                  simp only [show 1 + k + (j - (1 + k)) = j by omega])
                generalize ws[j] = x at *
                have hbase : w1.heap.size + 1 ≤ ((wr.alloc (.cells #[.string x] 9)).drew).heap.size := by have := hX.s.lt; show w1.heap.size + 1 ≤ (wr.alloc _).heap.size; simp; omega
                have r2w := (World.cell?_alloc_lt wr (.cells #[.string x] 9) ⟨w1.heap.size, 2, none⟩ hX.s.lt).trans r2
                have hlw : g ≠ wr.heap.size := fun e => by have := World.block_lt_of_cell? wr _ cw; simp at this; omega
                have hls : ¬ w1.heap.size = wr.heap.size := fun e => by have := hX.s.lt; omega
                have HX := hide (And.intro hX hbase)
                clear hX hbase hN hS hS5 hxz
                go_wp2_with fail
                go_region_law (first | (refine step_appT _ rfl _ _ rfl ((unhide HX).1.t.alloc _).drew rfl (one_strs wr x) rfl (by have := hSl.out; simp; omega) (unhide HX).2 ?_; intro v1 w6 hO1 hg1 hat1; obtain ⟨A1, c1, rfl, -⟩ := id (ownT_strs hO1); have hs6 := (unhide HX).1.blkT (grown_undrew hg1); have k2 := hs6.cell 2; have l2 := hs6.frozen 2; simp only [calC, List.getElem?_toArray, List.getElem?_cons_zero, List.getElem?_cons_succ] at k2; simp only [List.length_append, List.length_cons, List.length_nil, Nat.zero_add] at hO1; have H6 := hide ((unhide HX).1.appT hO1 (grown_undrew hg1)); clear hO1 hg1 hat1 hs6))
                all_goals
                  go_wp2_with fail
                  exact ⟨⟨j + 1, _, _, N, S ++ [x], by go_num, by omega, by omega, hnx, Lib.hid hsx.out.symm, by simpa using unhide H6⟩, by simp [RowKit.intOf]; omega⟩
            · have s1 : ¬ (j : Int) < (ws.length : Int) := by omega
              have hNe : N = ((ws.drop 1).take k).map numV := by rw [hN.out]; congr 1; apply List.take_of_length_le; rw [List.length_take, List.length_drop]; omega
              have hSe : S = ws.drop (1 + k) := by rw [hS.out]; apply List.take_of_length_le; rw [List.length_drop]; omega
              obtain ⟨An, cn, rfl, -⟩ := id hX.n.ints
              obtain ⟨As, cs, rfl, -⟩ := id (ownT_strs hX.t)
              have hcall := rcall_any ⟨nm, N, S⟩ _ _ wr hX.n.ints (ownT_strs hX.t) ⟨fun z hz => by rw [hNe] at hz; obtain ⟨x, -, rfl⟩ := List.mem_map.1 hz; exact numV_in x, fun x hx => by rw [hSe] at hx; have := (unhide HOK).2 x hx; omega⟩ (by have := (shapeS_some (unhide HOK).1).2.2.2.1; rw [hNe]; simp only at this ⊢; omega) (by have := (shapeS_some (unhide HOK).1).2.2.2.2; rw [hSe]; simp only at this ⊢; omega)
              have hTT : callB ⟨nm, N, S⟩ = T := by rw [hNe, hSe]; exact hT.out
              rw [fcallV_ok (by rw [hNe, hSe]; exact (unhide HOK).1), hTT] at hcall
              simp only at hcall
              have hX1 := (unhide H1).next hX.b
              have hll := HLAST.out
              rw [← hNe, ← hSe] at hll
              have HL := Lib.hid hll
              have r0 := hX.s.cell 0; have r1 := hX.s.cell 1; have r2 := hX.s.cell 2
              simp only [calC, List.getElem?_toArray, List.getElem?_cons_zero, List.getElem?_cons_succ] at r0 r1 r2
              have HX := hide (And.intro hX hX1); have HC := hide hcall
              have hlw := Lib.hid (unhide H1).x.lt
              clear hX hX1 hcall hll hN hS hS5 hNe hSe hTT HOK HLAST
              go_wp2_with fail
              refine (unhide HC).mono ?_
              rintro e7 w7 ⟨rfl, hb7⟩
              have hX7 := (unhide HX).1.call hb7
              have hZ7 := (unhide HX).2.next hb7
              have q0 := hX7.s.cell 0; have q1 := hX7.s.cell 1; have q2 := hX7.s.cell 2
              have z0 := hZ7.x.cell 0; have z1 := hZ7.x.cell 1; have z2 := hZ7.x.cell 2
              have f0 := hZ7.x.frozen 0; have f1 := hZ7.x.frozen 1; have f2 := hZ7.x.frozen 2
              simp only [calC, List.getElem?_toArray, List.getElem?_cons_zero, List.getElem?_cons_succ] at q0 q1 q2 z0 z1 z2
              have H7 := hide (And.intro hX7 hZ7)
              clear hX7 hZ7 hb7 HX HC r0 r1 r2
              by_cases hts : T = s
              · have y1 : (T.toList == s.toList) = true := by rw [hts]; exact beq_self_eq_true _
                have y2 : T.toList = s.toList := by rw [hts]
                have hr : Hid (callO s = some ⟨nm, N, S⟩) := Lib.hid (by rw [HL.out, if_pos hts])
                clear hts HL
                go_wp2_with fail
                (try simp only [Exit.inBlock, Exit.then])
                refine bodyPost_ret (results_call rfl _ _ w.heap.size _ _ _ rfl (blk3_put (unhide H7).2.x _ _ _)) rfl ?_
                have hend := rd_end (w := w) (unhide H7).1.n (unhide H7).1.t (Nat.lt_succ_of_lt hlw.out) (.string nm) (.slice An N.length cn) (.slice As S.length cs)
                exact ⟨.inl ⟨⟨nm, N, S⟩, _, _, hr.out, rfl, hend.1, hend.2⟩, below3_put (unhide H7).2.b (Nat.le_refl _) _ _ _⟩
              · have y1 : (T.toList == s.toList) = false := toList_ne hts
                have y2 : ¬ T.toList = s.toList := by rw [beq_eq_false_iff_ne] at y1; exact y1
                have hr : Hid (callO s = none) := Lib.hid (by rw [HL.out, if_neg hts])
                clear hts HL
                go_wp2_with fail
                (try simp only [Exit.inBlock, Exit.then])
                refine bodyPost_ret (results_call rfl _ _ w.heap.size _ _ _ rfl (blk3_put (unhide H7).2.x _ _ _)) rfl ?_
                exact ⟨.inr ⟨hr.out, rfl⟩, below3_put (unhide H7).2.b (Nat.le_refl _) _ _ _⟩
        · have hr := Lib.hid (call_none4 hw hs1 hlen)
          have t4 : ¬ (ws.length : Int) = 1 + (k : Int) + (m : Int) := by omega
          have t5 : ((ws.length : Int) != 1 + (k : Int) + (m : Int)) = true := by rw [bne_iff_ne]; exact t4
          clear HS HO hw hs1 hlen s0
          go_wp2_with fail
          (try simp only [Exit.inBlock, Exit.then])
          refine bodyPost_ret (results_call rfl _ _ w.heap.size _ _ _ rfl (blk3_put (unhide HZ).x _ _ _)) rfl ?_
          exact ⟨.inr ⟨hr.out, rfl⟩, below3_put (unhide HZ).b (Nat.le_refl _) _ _ _⟩
      · rw [← hnm.out] at hs1
        have hr := Lib.hid (call_none3 hw hs1)
        clear HS HO hw hs1 s0
        go_wp2_with fail
        (try simp only [Exit.inBlock, Exit.then])
        refine bodyPost_ret (results_call rfl _ _ w.heap.size _ _ _ rfl (blk3_put (unhide HZ).x _ _ _)) rfl ?_
        exact ⟨.inr ⟨hr.out, rfl⟩, below3_put (unhide HZ).b (Nat.le_refl _) _ _ _⟩
  · clear hb1 H0 HT hz1
    go_wp2_with fail
    (try simp only [Exit.inBlock, Exit.then])
    refine bodyPost_ret (results_call rfl _ _ w.heap.size _ _ _ rfl (blk3_put (unhide H1).x _ _ _)) rfl ?_
    exact ⟨.inr ⟨call_none1 hw, rfl⟩, below3_put (unhide H1).b (Nat.le_refl _) _ _ _⟩
end Go.Proofs.YtnkioabdpploeaaGreatDoor

/-
  CONTRACT of annalsref27.Told.
-/
import Derived.Test.YtaomecinemmdgaaRows
import Derived.Test.YtaomecinemmdgaaGBase
import Derived.Test.YtaomecinemmdgaaSFToldA
import Derived.Test.YtaomecinemmdgaaSRTWords
import Derived.Test.YtaomecinemmdgaaSRStep
import Derived.Test.YtaomecinemmdgaaGApt
set_option linter.unusedVariables false
set_option linter.unusedSimpArgs false
namespace Go.Proofs.Ytaomecinemmdgaa
open Go.RowKit Go.Lib
theorem undA_num (x : ByteArray) : ∃ z : Nat, undA x = .tuple #[.int .i64 (numV x), .int .i64 (z : Int)] := by
  unfold numV
  cases h : undV x with
  | none => exact ⟨42, undA_none h⟩
  | some n => exact ⟨0, undA_some h⟩
theorem rundec_num (x : ByteArray) (w : World) (hx : x.size ≤ 1099511627776) : Calls Try.prog 39 #[.string x] w fun e w' => (∃ z : Nat, e = .returned (.tuple #[.int .i64 (numV x), .int .i64 (z : Int)])) ∧ w = w' := by
  obtain ⟨z, hz⟩ := undA_num x
  refine (rundec_any x w hx).mono ?_
  rintro e w' ⟨rfl, rfl⟩
  exact ⟨⟨z, by rw [hz]⟩, rfl⟩
theorem row_ty {w : World} {base : Nat} {e t : TypeId} {size n g j : Nat} {v : Value} {xs : List Value} {cs : Array Value} (h : w.ownsRow base e size v n xs) (hB : Blk w g t cs) (hne : e ≠ t) (u : Value) : (w.setCell ⟨g, j, none⟩ u).ownsRow base e size v n xs := row_store_ne h (own_blk_ne h hB hne) u
/-- A reply that is being read. -/
structure RdX (w1 W : World) (c : Int) (vn vs : Value) (N : List Int) (S : List ByteArray) : Prop where
  s : Blk W w1.heap.size 30 (repC c vn vs)
  n : OwnI W (w1.heap.size + 1) vn N
  t : OwnT W (w1.heap.size + 1) vs S
  b : Below w1.heap.size w1 W
theorem RdX.call {w1 W W' : World} {c : Int} {vn vs : Value} {N : List Int} {S : List ByteArray} (h : RdX w1 W c vn vs N S) (hb : Below W.heap.size W W') : RdX w1 W' c vn vs N S :=
  ⟨h.s.below hb h.s.lt, row_low h.n (fun k hk => (World.ownsRow.lt h.n k hk).2) hb, h.t.below hb, h.b.trans (hb.mono h.b.size)⟩
theorem RdX.appN {w1 W W' : World} {c : Int} {vn vn' vs : Value} {N N' : List Int} {S : List ByteArray} {o : Obj} (h : RdX w1 W c vn vs N S) (hO : OwnI W' (w1.heap.size + 1) vn' N') (hg : (W.alloc o).grownBy W' vn.ownBlock) :
    RdX w1 (W'.setCell ⟨w1.heap.size, 1, none⟩ vn') c vn' vs N' S := by
  have hn := World.ownsRow.alloc h.n o
  have ht := World.ownsRow.alloc h.t o
  have hs1 : Blk W' w1.heap.size 30 (repC c vn vs) := (h.s.alloc o).grown hg (fun e => own_blk_ne hn (h.s.alloc o) (by decide) e.symm)
  have ht1 : OwnT W' (w1.heap.size + 1) vs S := World.ownsRow.kept ht hg (row_ne ht hn (by decide))
  refine ⟨?_, row_ty hO hs1 (by decide) _, row_ty ht1 hs1 (by decide) _, ?_⟩
  · have h2 := hs1.set_ 1 vn'
    simpa [repC] using h2
  · exact ((h.b.alloc h.b.size o).grown hg (by have := h.b.size; simp; omega) (fun q hq => by have := (World.ownsRow.lt hn q hq).1; omega)).setCell (p := ⟨w1.heap.size, 1, none⟩) (Nat.le_refl _) _
theorem RdX.appT {w1 W W' : World} {c : Int} {vn vs vs' : Value} {N : List Int} {S S' : List ByteArray} {o : Obj} (h : RdX w1 W c vn vs N S) (hO : OwnT W' (w1.heap.size + 1) vs' S') (hg : (W.alloc o).grownBy W' vs.ownBlock) :
    RdX w1 (W'.setCell ⟨w1.heap.size, 2, none⟩ vs') c vn vs' N S' := by
  have hn := World.ownsRow.alloc h.n o
  have ht := World.ownsRow.alloc h.t o
  have hs1 : Blk W' w1.heap.size 30 (repC c vn vs) := (h.s.alloc o).grown hg (fun e => own_blk_ne ht (h.s.alloc o) (by decide) e.symm)
  have hn1 : OwnI W' (w1.heap.size + 1) vn N := World.ownsRow.kept hn hg (row_ne hn ht (by decide))
  refine ⟨?_, row_ty hn1 hs1 (by decide) _, row_ty hO hs1 (by decide) _, ?_⟩
  · have h2 := hs1.set_ 2 vs'
    simpa [repC] using h2
  · exact ((h.b.alloc h.b.size o).grown hg (by have := h.b.size; simp; omega) (fun q hq => by have := (World.ownsRow.lt ht q hq).1; omega)).setCell (p := ⟨w1.heap.size, 2, none⟩) (Nat.le_refl _) _
theorem RdX.blkN {w1 W W' : World} {c : Int} {vn vs : Value} {N : List Int} {S : List ByteArray} {o : Obj} (h : RdX w1 W c vn vs N S) (hg : (W.alloc o).grownBy W' vn.ownBlock) : Blk W' w1.heap.size 30 (repC c vn vs) :=
  (h.s.alloc o).grown hg (fun e => own_blk_ne (World.ownsRow.alloc h.n o) (h.s.alloc o) (by decide) e.symm)
theorem RdX.blkT {w1 W W' : World} {c : Int} {vn vs : Value} {N : List Int} {S : List ByteArray} {o : Obj} (h : RdX w1 W c vn vs N S) (hg : (W.alloc o).grownBy W' vs.ownBlock) : Blk W' w1.heap.size 30 (repC c vn vs) :=
  (h.s.alloc o).grown hg (fun e => own_blk_ne (World.ownsRow.alloc h.t o) (h.s.alloc o) (by decide) e.symm)
theorem take_one (ws : List ByteArray) (a j n : Nat) (h : a + j < ws.length) (hn : j < n) : ((ws.drop a).take n).take (j + 1) = ((ws.drop a).take n).take j ++ [ws[a + j]] := by
  rw [List.take_succ_eq_append_getElem (by rw [List.length_take, List.length_drop]; omega)]
  simp
set_option maxRecDepth 100000 in
set_option maxHeartbeats 4000000 in
theorem rtold_any (s : ByteArray) (w : World) (hs : s.size ≤ 1048577) :
    Calls Try.prog 18 #[.string s] w fun e w' => TolR w' w.heap.size s e ∧ Below w.heap.size w w' := by
  have hb0 : Below w.heap.size w (w.alloc (.cells (repC 0 (.slice none 0 0) (.slice none 0 0)) 30)) := (Below.refl _ _).alloc (Nat.le_refl _) _
  have hB0 := Blk.new w 30 (repC 0 (.slice none 0 0) (.slice none 0 0))
  have htw := rtwords_any s (w.alloc (.cells (repC 0 (.slice none 0 0) (.slice none 0 0)) 30)) (by omega)
  have H0 := hide (And.intro hb0 hB0); have HT := hide htw; clear hb0 hB0 htw
  go_enter Try.func18, Try.ntmps18
  go_wp2_with fail
  refine (unhide HT).mono ?_
  rintro e1 w1 ⟨hW, hb1⟩
  have hX1 : TX w w1 (repC 0 (.slice none 0 0) (.slice none 0 0)) := TX.next ⟨(unhide H0).1, (unhide H0).2⟩ hb1
  have hz1 : w.heap.size + 1 ≤ (w.alloc (.cells (repC 0 (.slice none 0 0) (.slice none 0 0)) 30)).heap.size := by simp
  have c0 := hX1.x.cell 0; have c1 := hX1.x.cell 1; have c2 := hX1.x.cell 2
  have f0 := hX1.x.frozen 0; have f1 := hX1.x.frozen 1; have f2 := hX1.x.frozen 2
  simp only [repC, List.getElem?_toArray, List.getElem?_cons_zero, List.getElem?_cons_succ] at c0 c1 c2
  have H1 := hide hX1; clear hX1
  rcases hW with ⟨ws, v, hw, rfl, hO⟩ | ⟨hw, rfl⟩
  · obtain ⟨hwz, hwl⟩ := wdsL_size hw
    have hO1 : OwnT w1 (w.heap.size + 1) v ws := ownT_mono hO hz1
    clear hO hb1 H0 HT hz1
    have hwl2 : ws.length ≤ 1048578 := by omega
    rcases Nat.lt_or_ge ws.length 2 with hl | hl
    · obtain ⟨Aw, cw, rfl, -⟩ := id (ownT_strs hO1)
      have t1 : (ws.length : Int) < 2 := by omega
      have hr := Lib.hid (told_none2 hw hl)
      clear hO1 hw hwz hwl
      go_wp2_with fail
      (try simp only [Exit.inBlock, Exit.then])
      refine bodyPost_ret (results_reply rfl _ _ w.heap.size _ _ _ rfl (blk3_put (unhide H1).x _ _ _)) rfl ?_
      exact ⟨.inr ⟨hr.out, rfl⟩, below3_put (unhide H1).b (Nat.le_refl _) _ _ _⟩
    · rcases hO1.form with ⟨_, he⟩ | ⟨g, cap, rfl, hg1, hg2, hcap⟩
      · exact absurd hl (by rw [he]; simp)
      have t1 : ¬ (ws.length : Int) < 2 := by omega
      have t2 : (1 : Int) < (ws.length : Int) := by omega
      have t3 : (0 : Int) < (ws.length : Int) := by omega
      have hS := ownT_strs hO1
      have q0 := World.ownsRow.cellAt hO1 0 (by omega)
      have q1 := World.ownsRow.cellAt hO1 1 (by omega)
      rw [List.getElem?_map, List.getElem?_eq_getElem (by omega), Option.map_some] at q0 q1
      have e0 : ws.getD 0 ⟨#[]⟩ = ws[0] := by rw [List.getD_eq_getElem?_getD, List.getElem?_eq_getElem (by omega)]; rfl
      have e1 : ws.getD 1 ⟨#[]⟩ = ws[1] := by rw [List.getD_eq_getElem?_getD, List.getElem?_eq_getElem (by omega)]; rfl
      have hn0 := fun W => rundec_num (ws.getD 0 ⟨#[]⟩) W (by rw [e0]; have := hwz _ (List.getElem_mem (show 0 < ws.length by omega)); omega)
      have hn1 := fun W => rundec_num (ws.getD 1 ⟨#[]⟩) W (by rw [e1]; have := hwz _ (List.getElem_mem (show 1 < ws.length by omega)); omega)
      rw [← e0] at q0
      rw [← e1] at q1
      obtain ⟨kk, hkk⟩ : ∃ kk, Hid (numV (ws.getD 1 ⟨#[]⟩) = kk) := ⟨_, Lib.hid rfl⟩
      obtain ⟨cc, hcc⟩ : ∃ cc, Hid (numV (ws.getD 0 ⟨#[]⟩) = cc) := ⟨_, Lib.hid rfl⟩
      have hin : In64 kk := by rw [← hkk.out]; exact numV_in _
      rw [hcc.out] at hn0
      rw [hkk.out] at hn1
      obtain ⟨x0, hx0⟩ : ∃ x0, Hid (ws.getD 0 ⟨#[]⟩ = x0) := ⟨_, Lib.hid rfl⟩
      obtain ⟨x1, hx1⟩ : ∃ x1, Hid (ws.getD 1 ⟨#[]⟩ = x1) := ⟨_, Lib.hid rfl⟩
      rw [hx0.out] at q0 hn0
      rw [hx1.out] at q1 hn1
      have HN0 := hide hn0; have HN1 := hide hn1; have HS := hide (And.intro hS hwz); have HO := hide hO1
      clear hn0 hn1 hS hO1 hwz e0 e1
      go_wp2_with fail
      refine ((unhide HN0) _).mono ?_
      rintro e2 w2 ⟨⟨z2, rfl⟩, rfl⟩
      go_wp2_with fail
      refine ((unhide HN1) _).mono ?_
      rintro e3 w3 ⟨⟨z3, rfl⟩, rfl⟩
      clear HN0 HN1 q0 q1
      by_cases hk : 0 ≤ kk ∧ kk ≤ (ws.length : Int) - 2
      · obtain ⟨kn, rfl⟩ : ∃ kn : Nat, kk = (kn : Int) := ⟨kk.toNat, by omega⟩
        have hkl : kn + 2 ≤ ws.length := by omega
        have t4 : ¬ (kn : Int) < 0 := by omega
        have t5 : ¬ (ws.length : Int) - 2 < (kn : Int) := by omega
        have t9 : kn ≤ 1048578 := by omega
        have hlast := told_last hw hl (by rw [hkk.out]; exact hk)
        have hok := takeR_ok hw hl (by rw [hkk.out]; exact hk) hs
        have htk : takeR ws = ⟨cc, ((ws.drop 2).take kn).map numV, ws.drop (2 + kn)⟩ := by
          unfold takeR; rw [hkk.out, hcc.out]; rfl
        rw [htk] at hlast hok
        obtain ⟨T, hT⟩ : ∃ T, Hid (tellB ⟨cc, ((ws.drop 2).take kn).map numV, ws.drop (2 + kn)⟩ = T) := ⟨_, Lib.hid rfl⟩
        rw [hT.out] at hlast
        have HLAST := Lib.hid hlast; have HOK := hide hok
        clear hlast hok hk hin htk hw
        have hX2 : RdX w1 (w1.alloc (.cells (repC cc (.slice none 0 0) (.slice none 0 0)) 30)) cc (.slice none 0 0) (.slice none 0 0) [] [] := ⟨Blk.new _ _ _, World.ownsRow_nil _ _ _ _, World.ownsRow_nil _ _ _ _, (Below.refl _ _).alloc (Nat.le_refl _) _⟩
        have HX := hide hX2
        clear hX2 c0 c1 c2 f0 f1 f2 HO
        go_wp2_with fail
        generalize (w1.alloc (.cells (repC cc (.slice none 0 0) (.slice none 0 0)) 30)) = w5 at *
        go_loopw [11, 12, 13] (fun i _ _ W => ∃ (j : Nat) (vn vs : Value) (N : List Int) (S : List ByteArray), i = .int .i64 (j : Int) ∧ 2 ≤ j ∧ j ≤ ws.length ∧ Hid (N = (((ws.drop 2).take kn).take (j - 2)).map numV) ∧ Hid (S = (ws.drop (2 + kn)).take (j - (2 + kn))) ∧ RdX w1 W cc vn vs N S) (fun i _ _ _ => ws.length - (RowKit.intOf i).toNat)
        case atStart => exact ⟨2, _, _, [], [], rfl, Nat.le_refl _, hl, Lib.hid (by simp), Lib.hid (by rw [show 2 - (2 + kn) = 0 by omega]; rfl), unhide HX⟩
        case round =>
          obtain ⟨j, vn, vs, N, S, rfl, hj1, hj2, hN, hS, hX⟩ := hrel
          clear HX
          have s0 : (0 : Int) ≤ (j : Int) := by omega
          have jb : j ≤ 1048578 := by omega
          have hS5 := (unhide HS).1.below hX.b
          rcases Nat.lt_or_ge j ws.length with hlt | hge
          · have s1 : (j : Int) < (ws.length : Int) := by omega
            obtain ⟨ad, had, cw⟩ := strs_at hS5 j hlt
            injection had with had
            subst had
            have hadd : (⟨g, 0, none⟩ : Addr).add j = ⟨g, j, none⟩ := by unfold Addr.add; split <;> simp_all
            rw [hadd] at cw
            have hxz : ws[j].size ≤ 1099511627776 := by have := (unhide HS).2 _ (List.getElem_mem hlt); omega
            have hNl : Hid (N.length ≤ 1099511627776) := Lib.hid (by rw [hN.out, List.length_map, List.length_take, List.length_take, List.length_drop]; omega)
            have hSl : Hid (S.length ≤ 1099511627776) := Lib.hid (by rw [hS.out, List.length_take, List.length_drop]; omega)
            have r1 := hX.s.cell 1; have r2 := hX.s.cell 2; have fr1 := hX.s.frozen 1; have fr2 := hX.s.frozen 2
            simp only [repC, List.getElem?_toArray, List.getElem?_cons_zero, List.getElem?_cons_succ] at r1 r2
            obtain ⟨An, cn, rfl, -⟩ := id hX.n.ints
            obtain ⟨As, cs, rfl, -⟩ := id (ownT_strs hX.t)
            rcases Nat.lt_or_ge j (2 + kn) with hjk | hjk
            · have s2 : (j : Int) < 2 + (kn : Int) := by omega
              have hnx : Hid ((((ws.drop 2).take kn).take (j + 1 - 2)).map numV = N ++ [numV ws[j]]) := Lib.hid (by
                rw [hN.out, show j + 1 - 2 = (j - 2) + 1 by omega, take_one ws 2 (j - 2) kn (by omega) (by omega), List.map_append]
                congr 2
                simp only [show 2 + (j - 2) = j by omega, List.map_cons, List.map_nil])
              have hsx : Hid (S = (ws.drop (2 + kn)).take (j + 1 - (2 + kn))) := Lib.hid (by rw [hS.out, show j - (2 + kn) = 0 by omega, show j + 1 - (2 + kn) = 0 by omega])
              have hun := rundec_num ws[j] wr hxz
              generalize numV ws[j] = y at *
              generalize ws[j] = x at *
              have HU := hide hun; have HX := hide hX
              have hbase : Hid (w1.heap.size + 1 ≤ wr.heap.size) := Lib.hid hX.s.lt
              clear hun hX hN hS hS5 hxz
              go_wp2_with fail
              refine (unhide HU).mono ?_
              rintro e4 w4 ⟨⟨z4, rfl⟩, rfl⟩
              clear HU
              go_wp2_with (at_builtin; go_must (refine wpList_appI1 wr rfl _ _ rfl (unhide HX).n rfl rfl (by have := hNl.out; omega) hbase.out ?_); intro v1 w6 hO1 hg1 hat1; obtain ⟨A1, c1, rfl, -⟩ := id hO1.ints; have hs6 := (unhide HX).blkN hg1; have k1 := hs6.cell 1; have l1 := hs6.frozen 1; simp only [repC, List.getElem?_toArray, List.getElem?_cons_zero, List.getElem?_cons_succ] at k1; have H6 := hide ((unhide HX).appN hO1 hg1); clear hO1 hg1 hat1 hs6)
              exact ⟨⟨j + 1, _, _, N ++ [y], S, by go_num, by omega, by omega, Lib.hid hnx.out.symm, hsx, by simpa using unhide H6⟩, by simp [RowKit.intOf]; omega⟩
            · have s2 : ¬ (j : Int) < 2 + (kn : Int) := by omega
              have hnx : Hid (N = (((ws.drop 2).take kn).take (j + 1 - 2)).map numV) := Lib.hid (by rw [hN.out, List.take_take, List.take_take]; congr 2; omega)
              have hsx : Hid ((ws.drop (2 + kn)).take (j + 1 - (2 + kn)) = S ++ [ws[j]]) := Lib.hid (by
                rw [hS.out, show j + 1 - (2 + kn) = (j - (2 + kn)) + 1 by omega, List.take_succ_eq_append_getElem (by rw [List.length_drop]; omega), List.getElem_drop]
                congr 2
                simp only [show 2 + kn + (j - (2 + kn)) = j by omega])
              generalize ws[j] = x at *
              have hbase : w1.heap.size + 1 ≤ ((wr.alloc (.cells #[.string x] 9)).drew).heap.size := by have := hX.s.lt; show w1.heap.size + 1 ≤ (wr.alloc _).heap.size; simp; omega
              have r2w := (World.cell?_alloc_lt wr (.cells #[.string x] 9) ⟨w1.heap.size, 2, none⟩ hX.s.lt).trans r2
              have hlw : g ≠ wr.heap.size := fun e => by have := World.block_lt_of_cell? wr _ cw; simp at this; omega
              have hls : ¬ w1.heap.size = wr.heap.size := fun e => by have := hX.s.lt; omega
              have HX := hide (And.intro hX hbase)
              clear hX hbase hN hS hS5 hxz
              go_wp2_with fail
              go_region_law (first | (refine step_appT _ rfl _ _ rfl ((unhide HX).1.t.alloc _).drew rfl (one_strs wr x) rfl (by have := hSl.out; simp; omega) (unhide HX).2 ?_; intro v1 w6 hO1 hg1 hat1; obtain ⟨A1, c1, rfl, -⟩ := id (ownT_strs hO1); have hs6 := (unhide HX).1.blkT (grown_undrew hg1); have k2 := hs6.cell 2; have l2 := hs6.frozen 2; simp only [repC, List.getElem?_toArray, List.getElem?_cons_zero, List.getElem?_cons_succ] at k2; simp only [List.length_append, List.length_cons, List.length_nil, Nat.zero_add] at hO1; have H6 := hide ((unhide HX).1.appT hO1 (grown_undrew hg1)); clear hO1 hg1 hat1 hs6))
              all_goals
                go_wp2_with fail
                exact ⟨⟨j + 1, _, _, N, S ++ [x], by go_num, by omega, by omega, hnx, Lib.hid hsx.out.symm, by simpa using unhide H6⟩, by simp [RowKit.intOf]; omega⟩
          · have s1 : ¬ (j : Int) < (ws.length : Int) := by omega
            have hNe : N = ((ws.drop 2).take kn).map numV := by rw [hN.out]; congr 1; apply List.take_of_length_le; rw [List.length_take, List.length_drop]; omega
            have hSe : S = ws.drop (2 + kn) := by rw [hS.out]; apply List.take_of_length_le; rw [List.length_drop]; omega
            obtain ⟨An, cn, rfl, -⟩ := id hX.n.ints
            obtain ⟨As, cs, rfl, -⟩ := id (ownT_strs hX.t)
            have hcall := rtell_any ⟨cc, N, S⟩ _ _ wr hX.n.ints (ownT_strs hX.t) (by rw [hNe, hSe]; exact unhide HOK)
            have hTT : tellB ⟨cc, N, S⟩ = T := by rw [hNe, hSe]; exact hT.out
            rw [hTT] at hcall
            simp only at hcall
            have hX1 := (unhide H1).next hX.b
            have hll := HLAST.out
            rw [← hNe, ← hSe] at hll
            have HL := Lib.hid hll
            have r0 := hX.s.cell 0; have r1 := hX.s.cell 1; have r2 := hX.s.cell 2
            simp only [repC, List.getElem?_toArray, List.getElem?_cons_zero, List.getElem?_cons_succ] at r0 r1 r2
            have HX := hide (And.intro hX hX1); have HC := hide hcall
            have hlw := Lib.hid (unhide H1).x.lt
            clear hX hX1 hcall hll hN hS hS5 hNe hSe hTT HOK HLAST
            go_wp2_with fail
            refine (unhide HC).mono ?_
            rintro e7 w7 ⟨rfl, hb7⟩
            have hX7 := (unhide HX).1.call hb7
            have hZ7 := (unhide HX).2.next hb7
            have q0 := hX7.s.cell 0; have q1 := hX7.s.cell 1; have q2 := hX7.s.cell 2
            have z0 := hZ7.x.cell 0; have z1 := hZ7.x.cell 1; have z2 := hZ7.x.cell 2
            have f0 := hZ7.x.frozen 0; have f1 := hZ7.x.frozen 1; have f2 := hZ7.x.frozen 2
            simp only [repC, List.getElem?_toArray, List.getElem?_cons_zero, List.getElem?_cons_succ] at q0 q1 q2 z0 z1 z2
            have H7 := hide (And.intro hX7 hZ7)
            clear hX7 hZ7 hb7 HX HC r0 r1 r2
            by_cases hts : T = s
            · have y1 : (T.toList == s.toList) = true := by rw [hts]; exact beq_self_eq_true _
              have y2 : T.toList = s.toList := by rw [hts]
              have hr : Hid (toldO s = some ⟨cc, N, S⟩) := Lib.hid (by rw [HL.out, if_pos hts])
              clear hts HL
              go_wp2_with fail
              (try simp only [Exit.inBlock, Exit.then])
              refine bodyPost_ret (results_reply rfl _ _ w.heap.size _ _ _ rfl (blk3_put (unhide H7).2.x _ _ _)) rfl ?_
              have hend := rd_end (w := w) (unhide H7).1.n (unhide H7).1.t (Nat.lt_succ_of_lt hlw.out) (.int .i64 cc) (.slice An N.length cn) (.slice As S.length cs)
              exact ⟨.inl ⟨⟨cc, N, S⟩, _, _, hr.out, rfl, hend.1, hend.2⟩, below3_put (unhide H7).2.b (Nat.le_refl _) _ _ _⟩
            · have y1 : (T.toList == s.toList) = false := toList_ne hts
              have y2 : ¬ T.toList = s.toList := by rw [beq_eq_false_iff_ne] at y1; exact y1
              have hr : Hid (toldO s = none) := Lib.hid (by rw [HL.out, if_neg hts])
              clear hts HL
              go_wp2_with fail
              (try simp only [Exit.inBlock, Exit.then])
              refine bodyPost_ret (results_reply rfl _ _ w.heap.size _ _ _ rfl (blk3_put (unhide H7).2.x _ _ _)) rfl ?_
              exact ⟨.inr ⟨hr.out, rfl⟩, below3_put (unhide H7).2.b (Nat.le_refl _) _ _ _⟩
      · have hr := Lib.hid (told_none3 hw hl (by rw [hkk.out]; omega))
        rcases Int.lt_or_le kk 0 with hk0 | hk0
        · clear HS HO hw hk hin
          go_wp2_with fail
          (try simp only [Exit.inBlock, Exit.then])
          refine bodyPost_ret (results_reply rfl _ _ w.heap.size _ _ _ rfl (blk3_put (unhide H1).x _ _ _)) rfl ?_
          exact ⟨.inr ⟨hr.out, rfl⟩, below3_put (unhide H1).b (Nat.le_refl _) _ _ _⟩
        · have hk1 : (ws.length : Int) - 2 < kk := by omega
          have hk2 : ¬ kk < 0 := by omega
          clear HS HO hw hk hin
          go_wp2_with fail
          (try simp only [Exit.inBlock, Exit.then])
          refine bodyPost_ret (results_reply rfl _ _ w.heap.size _ _ _ rfl (blk3_put (unhide H1).x _ _ _)) rfl ?_
          exact ⟨.inr ⟨hr.out, rfl⟩, below3_put (unhide H1).b (Nat.le_refl _) _ _ _⟩
  · clear hb1 H0 HT hz1
    go_wp2_with fail
    (try simp only [Exit.inBlock, Exit.then])
    refine bodyPost_ret (results_reply rfl _ _ w.heap.size _ _ _ rfl (blk3_put (unhide H1).x _ _ _)) rfl ?_
    exact ⟨.inr ⟨told_none1 hw, rfl⟩, below3_put (unhide H1).b (Nat.le_refl _) _ _ _⟩
end Go.Proofs.Ytaomecinemmdgaa

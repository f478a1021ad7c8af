/-
  CONTRACT of the reference of package sha: one block.
-/
import Derived.Test.YtmkecanibedahaaDoorRows
import Derived.Test.YtmkecanibedahaaDoorWd
import Derived.Test.YtmkecanibedahaaDoorShaA
import Derived.Test.YtmkecanibedahaaDoorShaB
import Derived.Test.YtmkecanibedahaaDoorShaC
import Derived.Test.YtmkecanibedahaaDoorShaD
import Derived.StillTailTactics
set_option linter.unusedVariables false
set_option linter.unusedSimpArgs false
namespace Go.Proofs.YtmkecanibedahaaDoor
open Go.RowKit
/-- The rounds' constants of the reference are there. -/
def TabOkR (w : World) : Prop := ∀ i, i < 64 → w.cell? ⟨2, i, none⟩ = some (.int .u32 (shaK.getD i 0))
theorem TabOkR.lt {w : World} (h : TabOkR w) : 2 < w.heap.size := World.block_lt_of_cell? w _ (h 0 (by omega))
theorem TabOkR.below {B : Nat} {w w' : World} (h : TabOkR w) (hb : Below B w w') (hB : 2 < B) : TabOkR w' :=
  fun i hi => (hb.cell (p := ⟨2, i, none⟩) hB).trans (h i hi)
theorem st8_one (u : List Int) : ((st8 u).toArray).all (·.oneCell') = true := by
  rw [Array.all_eq_true]
  intro i hi
  simp [st8, Value.oneCell']
set_option maxRecDepth 100000 in
set_option maxHeartbeats 1000000 in
theorem block_any (v : List Int) (g : Nat) (bs : List UInt8) (c : Nat) (p : Int) (w : World) (hv : v.length = 8) (hu : U32 v) (htab : TabOkR w) (hn : bs.length ≤ maxLen) (hp0 : 0 ≤ p) (hp : p + 64 ≤ bs.length) (hg : g < w.heap.size) (hB0 : BytesAt w g bs) :
    Calls Tryd.prog 25 #[.agg (st8 v).toArray, .slice (some ⟨g, 0, none⟩) bs.length c, .int .i64 p] w fun e w' => e = .returned (.agg (st8 (comp v ((bs.drop p.toNat).take 64))).toArray) ∧ Below w.heap.size w w' := by
  obtain ⟨v0, v1, v2, v3, v4, v5, v6, v7, rfl⟩ := list8 hv
  obtain ⟨C, HC⟩ : ∃ C, Hid (arr64 (sched ((bs.drop p.toNat).take 64)) = C) := ⟨_, rfl⟩
  have sizeC : C.size = 64 := by rw [← HC.out]; exact arr64_size _ (Nat.le_of_eq (sched_length _))
  have oneC : C.all (·.oneCell') = true := by rw [← HC.out]; exact arr64_one _
  have SizeC := Lib.hid sizeC; clear sizeC
  have ci : (Tryd.prog.info? 64).map (·.size) = some 64 := by kernel_rfl
  have Ci := hide ci; clear ci
  have HB0 := hide hB0; clear hB0
  have Htab := hide htab; have Hu := hide hu; clear htab hu
  have hst : (st8 [v0, v1, v2, v3, v4, v5, v6, v7]).toArray = #[.int .u32 v0, .int .u32 v1, .int .u32 v2, .int .u32 v3, .int .u32 v4, .int .u32 v5, .int .u32 v6, .int .u32 v7] := rfl
  rw [hst]; clear hst
  go_enter Tryd.func25, Tryd.ntmps25
  go_wp2_with fail
  have hW0 : Blk ((w.alloc (.cells #[.int .u32 v0, .int .u32 v1, .int .u32 v2, .int .u32 v3, .int .u32 v4, .int .u32 v5, .int .u32 v6, .int .u32 v7] 51)).alloc (.cells #[.int .u32 0, .int .u32 0, .int .u32 0, .int .u32 0, .int .u32 0, .int .u32 0, .int .u32 0, .int .u32 0] 51)) w.heap.size 51 #[.int .u32 v0, .int .u32 v1, .int .u32 v2, .int .u32 v3, .int .u32 v4, .int .u32 v5, .int .u32 v6, .int .u32 v7] ∧
      Blk ((w.alloc (.cells #[.int .u32 v0, .int .u32 v1, .int .u32 v2, .int .u32 v3, .int .u32 v4, .int .u32 v5, .int .u32 v6, .int .u32 v7] 51)).alloc (.cells #[.int .u32 0, .int .u32 0, .int .u32 0, .int .u32 0, .int .u32 0, .int .u32 0, .int .u32 0, .int .u32 0] 51)) (w.heap.size + 1) 51 #[.int .u32 0, .int .u32 0, .int .u32 0, .int .u32 0, .int .u32 0, .int .u32 0, .int .u32 0, .int .u32 0] ∧
      Below w.heap.size w ((w.alloc (.cells #[.int .u32 v0, .int .u32 v1, .int .u32 v2, .int .u32 v3, .int .u32 v4, .int .u32 v5, .int .u32 v6, .int .u32 v7] 51)).alloc (.cells #[.int .u32 0, .int .u32 0, .int .u32 0, .int .u32 0, .int .u32 0, .int .u32 0, .int .u32 0, .int .u32 0] 51)) ∧
      ((w.alloc (.cells #[.int .u32 v0, .int .u32 v1, .int .u32 v2, .int .u32 v3, .int .u32 v4, .int .u32 v5, .int .u32 v6, .int .u32 v7] 51)).alloc (.cells #[.int .u32 0, .int .u32 0, .int .u32 0, .int .u32 0, .int .u32 0, .int .u32 0, .int .u32 0, .int .u32 0] 51)).heap.size = w.heap.size + 2 :=
    ⟨heap_alloc2_old w _ _, heap_alloc2_new w _ _, ((Below.refl _ _).alloc (Nat.le_refl _) _).alloc (by simp) _, by simp⟩
  generalize (w.alloc _).alloc _ = W0 at hW0 ⊢
  obtain ⟨hA0, hA1, hb0, hz0⟩ := hW0
  have hw := schedule_any g bs c p W0 hn hp0 hp (by omega) ((unhide HB0).below hb0 hg)
  rw [HC.out] at hw
  refine hw.mono ?_
  clear hw
  rintro e w1 ⟨rfl, hb1⟩
  have hA0' := hA0.below hb1 (by omega)
  have hA1' := hA1.below hb1 (by omega)
  have d0 := hA0'.cell 0
  have d1 := hA0'.cell 1
  have d2 := hA0'.cell 2
  have d3 := hA0'.cell 3
  have d4 := hA0'.cell 4
  have d5 := hA0'.cell 5
  have d6 := hA0'.cell 6
  have d7 := hA0'.cell 7
  simp at d0 d1 d2 d3 d4 d5 d6 d7
  have glt1 : w.heap.size < w1.heap.size := by have := hb1.size; omega
  have glt1' : w.heap.size + 1 < w1.heap.size := by have := hb1.size; omega
  have Hb01 := hide (And.intro (hb0.trans (hb1.mono (by omega))) (And.intro hA0' hA1')); clear hb0 hb1 hA0 hA1 hA0' hA1' hz0
  go_wp2_with (first | (refine wpList_store_row rfl 64 (.tmp 7) (.tmp 17) rfl w1.heap.size C rfl rfl 64 _ (heap_alloc_new w1 _) ((unhide Ci).trans (by rw [SizeC.out])) (by rw [SizeC.out]; rfl) oneC ?_; have hX := setRow_new w1 (List.replicate 64 (Value.int .u32 0)).toArray C 64; simp only [List.replicate_succ, List.replicate_zero] at hX; generalize World.setRow _ w1.heap.size C = W2 at hX ⊢; obtain ⟨hC2, hb2, hz2⟩ := hX; have bc := bcell hb2; replace d0 := (bc.1 w.heap.size 0 glt1).trans d0; replace d1 := (bc.1 w.heap.size 1 glt1).trans d1; replace d2 := (bc.1 w.heap.size 2 glt1).trans d2; replace d3 := (bc.1 w.heap.size 3 glt1).trans d3; replace d4 := (bc.1 w.heap.size 4 glt1).trans d4; replace d5 := (bc.1 w.heap.size 5 glt1).trans d5; replace d6 := (bc.1 w.heap.size 6 glt1).trans d6; replace d7 := (bc.1 w.heap.size 7 glt1).trans d7; have HC2 := hide hC2; have Hb2 := hide hb2; have Hz2 := hide hz2; clear bc hC2 hb2 hz2))
  clear d0 d1 d2 d3 d4 d5 d6 d7
  go_loopw [9] (fun i wr => ∃ (k : Nat) (u : List Int), k ≤ 64 ∧ i = .int .i64 k ∧ u.length = 8 ∧ rds (sched ((bs.drop p.toNat).take 64)) [v0, v1, v2, v3, v4, v5, v6, v7] k = u ∧ U32 u ∧ Blk wr W2.heap.size 51 (st8 u).toArray ∧ Below W2.heap.size W2 wr) (fun i _ => 64 - (intOf i).toNat)
  case atStart => exact ⟨0, [v0, v1, v2, v3, v4, v5, v6, v7], by omega, rfl, rfl, rfl, unhide Hu, heap_alloc_new W2 _, (Below.refl _ _).alloc (Nat.le_refl _) _⟩
  case round =>
    obtain ⟨k, u, hk, rfl, hul, hr, hU, hB, hb⟩ := hrel
    by_cases hlt : k < 64
    · obtain ⟨a0, a1, a2, a3, a4, a5, a6, a7, rfl⟩ := list8 hul
      clear hul
      have d0 := hB.cell 0
      have d1 := hB.cell 1
      have d2 := hB.cell 2
      have d3 := hB.cell 3
      have d4 := hB.cell 4
      have d5 := hB.cell 5
      have d6 := hB.cell 6
      have d7 := hB.cell 7
      simp [st8] at d0 d1 d2 d3 d4 d5 d6 d7
      have tk := ((unhide Htab).below (unhide Hb01).1 (unhide Htab).lt).below ((unhide Hb2).trans (hb.mono (by rw [unhide Hz2]; omega))) (Nat.lt_of_lt_of_le (unhide Htab).lt (unhide Hb01).1.size) k hlt
      have wk := (hb.cell (p := ⟨w1.heap.size, k, none⟩) (by rw [unhide Hz2]; simp)).trans ((unhide HC2).cell k)
      have hck : C[k]? = some (.int .u32 ((sched ((bs.drop p.toNat).take 64)).getD k 0)) := by rw [← HC.out]; exact arr64_get _ _ (by rw [sched_length]; exact hlt)
      rw [hck] at wk; clear hck
      obtain ⟨x0, x0'⟩ := hU.at_ 0
      obtain ⟨x4, x4'⟩ := hU.at_ 4
      simp at x0 x0' x4 x4'
      generalize hwk : (sched ((bs.drop p.toNat).take 64)).getD k 0 = wv at *
      generalize htk : shaK.getD k 0 = kv at *
      have Hr := hide (And.intro hr (And.intro hwk (And.intro htk (And.intro hU (And.intro hB hb))))); clear hr hwk htk hU hB hb
      go_wp2_with fail
      go_quiet ((go_at_call 36; exact quiet_left (rotr_int _ _ _ (by assumption) (by assumption) (by omega) (by omega))))
      go_wp2_with fail
      go_quiet ((go_at_call 36; exact quiet_add_left (rotr_int _ _ _ (by assumption) (by assumption) (by omega) (by omega))))
      go_wp2_with (refine wpList_store_row rfl 51 (.tmp 8) (.tmp 98) rfl W2.heap.size (st8 (rnd [a0, a1, a2, a3, a4, a5, a6, a7] kv wv)).toArray (by kernel_rfl) (by kernel_rfl) 51 (st8 [a0, a1, a2, a3, a4, a5, a6, a7]).toArray (unhide Hr).2.2.2.2.1 (by kernel_rfl) (by kernel_rfl) (by kernel_rfl) ?_)
      go_roundw
      case rel =>
        obtain ⟨hr, hwk, htk, hU, hB, hb⟩ := unhide Hr
        exact ⟨k + 1, rnd [a0, a1, a2, a3, a4, a5, a6, a7] kv wv, by omega, by go_num, rfl, by rw [rds, hr, hwk, htk], rnd_U32 hU _ _, setRow_heap _ _ _ _ _ _ hB, (below_drewN hb _).setRow (Nat.le_refl _) _⟩
      case measure => simp [intOf]; omega
    · have hk64 : 64 ≤ k := by omega
      have hz : w1.heap.size < W2.heap.size := by have h2 := unhide Hz2; omega
      have hG2 : Blk wr w.heap.size 51 (st8 [v0, v1, v2, v3, v4, v5, v6, v7]).toArray :=
        ((unhide Hb01).2.1.below (unhide Hb2) glt1).below hb (by omega)
      have hR2 : Blk wr (w.heap.size + 1) 51 #[.int .u32 0, .int .u32 0, .int .u32 0, .int .u32 0, .int .u32 0, .int .u32 0, .int .u32 0, .int .u32 0] :=
        ((unhide Hb01).2.2.below (unhide Hb2) glt1').below hb (by omega)
      have hgr : Below w.heap.size w wr := ((unhide Hb01).1.trans ((unhide Hb2).mono (by omega))).trans (hb.mono (by omega))
      have Hr := hide (And.intro hr (And.intro hU hul)); clear hr hU
      have Hx := hide (And.intro hB (And.intro hG2 (And.intro hgr (And.intro hR2 hul)))); clear hB hG2 hgr hR2 hul hb
      go_wp2_with fail
      go_loopw [14] (fun i wz => ∃ j : Nat, j ≤ 8 ∧ i = .int .i64 j ∧ Blk wz w.heap.size 51 (st8 (mix [v0, v1, v2, v3, v4, v5, v6, v7] u j) ++ []).toArray ∧ Blk wz W2.heap.size 51 (st8 u).toArray ∧ Below w.heap.size w wz ∧ Blk wz (w.heap.size + 1) 51 #[.int .u32 0, .int .u32 0, .int .u32 0, .int .u32 0, .int .u32 0, .int .u32 0, .int .u32 0, .int .u32 0]) (fun i _ => 8 - (intOf i).toNat)
      case atStart => exact ⟨0, by omega, rfl, (unhide Hx).2.1, (unhide Hx).1, (unhide Hx).2.2.1, (unhide Hx).2.2.2.1⟩
      case round =>
        have hul := (unhide Hx).2.2.2.2
        have Hul := hide hul; clear hul
        clear Hx
        obtain ⟨j, hj, rfl, hG, hV, hgr, hR2⟩ := hrel
        by_cases hlt : j < 8
        · have cg := (hG.cell j).trans (mix_at _ u [] j rfl (unhide Hul) hlt)
          have cv := (hV.cell j).trans (st8_at u j (by rw [unhide Hul]; exact hlt))
          have fg := hG.frozen j
          generalize hx : [v0, v1, v2, v3, v4, v5, v6, v7].getD j 0 = x at cg
          generalize hy : u.getD j 0 = y at cv
          have Hy := hide (And.intro hx (And.intro hy (And.intro hG (And.intro hV (And.intro hgr hR2))))); clear hx hy hG hV hgr hR2
          go_wp2_with fail
          go_still_tail 9, (by kernel_rfl)
          change wpList _ _ _ _ _ (World.drew _)
          go_wp2
          go_roundw
          case rel =>
            obtain ⟨hx, hy, hG, hV, hgr, hR2⟩ := unhide Hy
            have hs := mix_set [v0, v1, v2, v3, v4, v5, v6, v7] u [] j rfl (unhide Hul) hlt
            rw [hx, hy] at hs
            have h := hG.set_ j (.int .u32 ((x + y) % 4294967296))
            rw [hs] at h
            exact ⟨j + 1, by omega, by go_num, h.drew, (hV.far (p := ⟨w.heap.size, j, none⟩) (by simp; omega) _).drew, (hgr.setCell (Nat.le_refl _) _).drew, (hR2.far (p := ⟨w.heap.size, j, none⟩) (by simp) _).drew⟩
          case measure => simp [intOf]; omega
        · obtain rfl : j = 8 := by omega
          have hG8 : Blk wr w.heap.size 51 (st8 (comp [v0, v1, v2, v3, v4, v5, v6, v7] ((bs.drop p.toNat).take 64))).toArray := by
            obtain ⟨hr, hU, hul⟩ := unhide Hr
            obtain rfl : k = 64 := by omega
            rw [mix_all _ _ rfl (unhide Hul), ← hr, List.append_nil] at hG
            exact hG
          obtain ⟨D, HD⟩ : ∃ D, Hid (D = (st8 (comp [v0, v1, v2, v3, v4, v5, v6, v7] ((bs.drop p.toNat).take 64))).toArray) := ⟨_, rfl⟩
          have sizeD : D.size = 8 := by rw [HD.out]; simp [st8, comp, rds_length]
          have oneD : D.all (·.oneCell') = true := by rw [HD.out]; exact st8_one _
          rw [← HD.out] at hG8
          have SD := hide sizeD; clear sizeD
          have Hy := hide (And.intro hG8 (And.intro hgr hR2)); clear hG hG8 hgr hR2 hV
          have ci8 : (Tryd.prog.info? 51).map (·.size) = some 8 := by kernel_rfl
          have Ci8 := hide ci8; clear ci8
          go_wp2_with (first | (refine wpList_load_row rfl 51 (.tmp 3) rfl w.heap.size rfl 51 D (0, 0) _ (unhide Hy).1 Tryd.underlying51 rfl ((unhide Ci8).trans (by rw [unhide SD])) ?_) | (refine wpList_store_row rfl 51 (.tmp 6) (.tmp 112) rfl (w.heap.size + 1) D rfl rfl 51 _ (unhide Hy).2.2 ((unhide Ci8).trans (by rw [unhide SD])) (by rw [unhide SD]; rfl) oneD ?_))
          refine bodyPost_ret (results_cell_row rfl _ _ (w.heap.size + 1) 51 D (0, 0) _ rfl (setRow_heap wr _ _ _ _ _ (unhide Hy).2.2) Tryd.underlying51 rfl ((unhide Ci8).trans (by rw [unhide SD]))) rfl ?_
          exact ⟨by rw [HD.out], (unhide Hy).2.1.setRow (by omega) _⟩
end Go.Proofs.YtmkecanibedahaaDoor

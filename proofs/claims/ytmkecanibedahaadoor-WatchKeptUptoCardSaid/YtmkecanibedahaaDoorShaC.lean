/-
  CONTRACTS of the reference of package sha: the words of a block.
-/
import Derived.Test.YtmkecanibedahaaDoorRows
import Derived.Test.YtmkecanibedahaaDoorWd
import Derived.Test.YtmkecanibedahaaDoorShaA
import Derived.Test.YtmkecanibedahaaDoorShaB
import Derived.StillTailTactics
set_option linter.unusedVariables false
set_option linter.unusedSimpArgs false
namespace Go.Proofs.YtmkecanibedahaaDoor
open Go.RowKit
/-- The cells of block g from its head on are these bytes. -/
def BytesAt (w : World) (g : Nat) (bs : List UInt8) : Prop := ∀ j (hj : j < bs.length), w.cell? ⟨g, j, none⟩ = some (.int .u8 (bs[j].toNat : Int))
theorem BytesAt.keep {w w' : World} {g : Nat} {bs : List UInt8} (h : BytesAt w g bs) (hk : ∀ o, w'.cell? ⟨g, o, none⟩ = w.cell? ⟨g, o, none⟩) : BytesAt w' g bs :=
  fun j hj => (hk j).trans (h j hj)
theorem BytesAt.below {B : Nat} {w w' : World} {g : Nat} {bs : List UInt8} (h : BytesAt w g bs) (hb : Below B w w') (hg : g < B) : BytesAt w' g bs :=
  h.keep fun o => hb.cell (p := ⟨g, o, none⟩) hg
theorem four_of {l : List UInt8} {k : Nat} (h : k + 3 < l.length) : (l.drop k).take 4 = [l[k], l[k + 1], l[k + 2], l[k + 3]] := by
  have h0 := List.drop_eq_getElem_cons (l := l) (i := k) (by omega)
  have h1 := List.drop_eq_getElem_cons (l := l) (i := k + 1) (by omega)
  have h2 := List.drop_eq_getElem_cons (l := l) (i := k + 2) (by omega)
  have h3 := List.drop_eq_getElem_cons (l := l) (i := k + 3) (by omega)
  rw [h0, h1, h2, h3]
  simp only [List.take_succ_cons, List.take_zero]
set_option maxRecDepth 100000 in
set_option maxHeartbeats 1000000 in
theorem schedule_any (g : Nat) (bs : List UInt8) (c : Nat) (p : Int) (w : World) (hn : bs.length ≤ maxLen) (hp0 : 0 ≤ p) (hp : p + 64 ≤ bs.length) (hg : g < w.heap.size) (hB0 : BytesAt w g bs) :
    Calls Tryd.prog 35 #[.slice (some ⟨g, 0, none⟩) bs.length c, .int .i64 p] w fun e w' => e = .returned (.agg (arr64 (sched ((bs.drop p.toNat).take 64)))) ∧ Below w.heap.size w w' := by
  obtain ⟨q, rfl⟩ := Int.eq_ofNat_of_zero_le hp0
  rw [Int.toNat_natCast]
  have hn' : bs.length ≤ 9223372036854775807 := by simpa [maxLen] using hn
  obtain ⟨m, Hm⟩ : ∃ m, Hid (m = bs.length) := ⟨_, rfl⟩
  have hl : ((bs.drop q).take 64).length = 64 := by simp; omega
  have hm1 : bs.length ≤ m := by rw [Hm.out]; omega
  have hm2 : m ≤ bs.length := by rw [Hm.out]; omega
  rw [← Hm.out]
  obtain ⟨b, Hb64⟩ : ∃ b, Hid (b = (bs.drop q).take 64) := ⟨_, rfl⟩
  rw [← Hb64.out] at hl ⊢
  have Hl := Lib.hid hl; clear hl
  have HB0 := hide hB0; clear hB0
  go_enter Tryd.func35, Tryd.ntmps35
  go_wp2
  go_loopw [6] (fun i wr => ∃ k : Nat, k ≤ 16 ∧ i = .int .i64 k ∧ Blk wr (w.heap.size + 1) 64 (arr64 (firstWords b k)) ∧ Blk wr w.heap.size 64 (arr64 []) ∧ Below w.heap.size w wr) (fun i _ => 16 - (intOf i).toNat)
  case atStart => exact ⟨0, by omega, rfl, heap_alloc2_new w _ _, heap_alloc2_old w _ _, ((Below.refl _ _).alloc (Nat.le_refl _) _).alloc (by simp) _⟩
  case round =>
    obtain ⟨k, hk, rfl, hB, hA, hb⟩ := hrel
    by_cases hlt : k < 16
    · have c1 := (hB.cell k).trans (arr64_zero _ k (by rw [firstWords_length]; omega) (by omega))
      have f1 := hB.frozen k
      have Hbb := hide ((unhide HB0).below hb hg)
      have Hh := hide (And.intro hB (And.intro hA hb)); clear hB hA hb
      have e1 : ((q : Int) + 4 * k).toNat = q + 4 * k := by omega
      have E1 := Lib.hid e1; clear e1
      go_wp2_with fail
      have hw := word_any g m c ((q : Int) + 4 * k) (bs[q + 4 * k]'(by omega)) (bs[q + 4 * k + 1]'(by omega)) (bs[q + 4 * k + 2]'(by omega)) (bs[q + 4 * k + 3]'(by omega)) wr (by simp only [maxLen]; omega) (by omega) (by omega)
        (by rw [E1.out]; exact unhide Hbb _ _) (by rw [E1.out]; exact unhide Hbb _ _) (by rw [E1.out]; exact unhide Hbb _ _) (by rw [E1.out]; exact unhide Hbb _ _)
      refine hw.mono ?_
      clear hw
      rintro e w1 ⟨rfl, nd, rfl⟩
      go_wp2
      go_roundw
      case rel =>
        obtain ⟨hB, hA, hb⟩ := unhide Hh
        have hfw : firstWords b (k + 1) = firstWords b k ++ [beN [bs[q + 4 * k]'(by omega), bs[q + 4 * k + 1]'(by omega), bs[q + 4 * k + 2]'(by omega), bs[q + 4 * k + 3]'(by omega)]] := by
          have h4 := four_of (l := b) (k := 4 * k) (by have := Hl.out; omega)
          simp only [firstWords, h4]
          have ebj : ∀ j (hj : j < b.length) (hj' : q + j < bs.length), b[j] = bs[q + j] := by
            intro j hj hj'
            have hb' := Hb64.out
            subst hb'
            simp
          rw [ebj (4 * k) (by have := Hl.out; omega) (by omega), ebj (4 * k + 1) (by have := Hl.out; omega) (by omega), ebj (4 * k + 2) (by have := Hl.out; omega) (by omega), ebj (4 * k + 3) (by have := Hl.out; omega) (by omega)]
          rfl
        refine ⟨k + 1, by omega, by go_num, ?_, ?_, ?_⟩
        · have h := ((hB.drewN nd).set_ k (.int .u32 (beN [bs[q + 4 * k]'(by omega), bs[q + 4 * k + 1]'(by omega), bs[q + 4 * k + 2]'(by omega), bs[q + 4 * k + 3]'(by omega)])))
          have e := arr64_set (firstWords b k) (beN [bs[q + 4 * k]'(by omega), bs[q + 4 * k + 1]'(by omega), bs[q + 4 * k + 2]'(by omega), bs[q + 4 * k + 3]'(by omega)]) (by rw [firstWords_length]; omega)
          rw [firstWords_length] at e
          rw [e] at h
          rw [hfw]
          exact h
        · exact (hA.drewN nd).far (p := ⟨w.heap.size + 1, k, none⟩) (by simp) _
        · exact (below_drewN hb nd).setCell (by simp) _
      case measure => simp [intOf]; omega
    · have hk16 : 16 ≤ k := by omega
      go_wp2_with fail
      go_loopw [7] (fun i wr => ∃ (k : Nat) (l : List Int), l.length = k ∧ 16 ≤ k ∧ k ≤ 64 ∧ U32 l ∧ moreWords (64 - k) l = sched b ∧ i = .int .i64 k ∧ Blk wr (w.heap.size + 1) 64 (arr64 l) ∧ Blk wr w.heap.size 64 (arr64 []) ∧ Below w.heap.size w wr) (fun i _ => 64 - (intOf i).toNat)
      case atStart =>
        obtain rfl : k = 16 := by omega
        exact ⟨16, firstWords b 16, firstWords_length _ _, by omega, by omega, firstWords_U32 _ _, rfl, rfl, hB, hA, hb⟩
      case round =>
        clear hA hB hb
        obtain ⟨k, l, hl, hk1, hk2, hu, hm, rfl, hB, hA, hb⟩ := hrel
        by_cases hlt : k < 64
        · have a15 := (hB.cell (k - 15)).trans (arr64_get l _ (by omega))
          have a2 := (hB.cell (k - 2)).trans (arr64_get l _ (by omega))
          have a7 := (hB.cell (k - 7)).trans (arr64_get l _ (by omega))
          have a16 := (hB.cell (k - 16)).trans (arr64_get l _ (by omega))
          have at_ := (hB.cell k).trans (arr64_zero l k (by omega) (by omega))
          have ft := hB.frozen k
          obtain ⟨x0, x1⟩ := hu.at_ (k - 15)
          obtain ⟨y0, y1⟩ := hu.at_ (k - 2)
          obtain ⟨z0, z1⟩ := hu.at_ (k - 7)
          obtain ⟨t0, t1⟩ := hu.at_ (k - 16)
          generalize hx : l.getD (k - 15) 0 = x at *
          generalize hy : l.getD (k - 2) 0 = y at *
          generalize hz : l.getD (k - 7) 0 = z at *
          generalize ht : l.getD (k - 16) 0 = t at *
          have Hv := hide (And.intro hx (And.intro hy (And.intro hz ht))); clear hx hy hz ht
          have Hh := hide (And.intro hB (And.intro hA (And.intro hb (And.intro hu (And.intro hm hl))))); clear hB hA hb hu hm hl
          have s15 : IntKind.i64.wrap ((k : Int) - 15) = k - 15 := IntWalk.i64_in _ (by omega)
          have s2 : IntKind.i64.wrap ((k : Int) - 2) = k - 2 := IntWalk.i64_in _ (by omega)
          have n15 : ((k : Int) - 15).toNat = k - 15 := by omega
          have n2 : ((k : Int) - 2).toNat = k - 2 := by omega
          have g15 : 0 ≤ (k : Int) - 15 := by omega
          have g2 : 0 ≤ (k : Int) - 2 := by omega
          have r15 : 15 ≤ (k : Int) := by omega
          have r2 : 2 ≤ (k : Int) := by omega
          have u15 : (k : Int) - 15 < 64 := by omega
          have u2 : (k : Int) - 2 < 64 := by omega
          go_wp2_with fail
          refine (rotr_any x 7 _ x0 x1 (by omega) (by omega)).mono ?_
          rintro e w1 ⟨rfl, rfl⟩
          go_wp2_with fail
          refine (rotr_any x 18 _ x0 x1 (by omega) (by omega)).mono ?_
          rintro e w1 ⟨rfl, rfl⟩
          go_wp2_with fail
          refine (rotr_any y 17 _ y0 y1 (by omega) (by omega)).mono ?_
          rintro e w1 ⟨rfl, rfl⟩
          go_wp2_with fail
          refine (rotr_any y 19 _ y0 y1 (by omega) (by omega)).mono ?_
          rintro e w1 ⟨rfl, rfl⟩
          go_wp2_with fail
          clear s15 s2 n15 n2 g15 g2 u15 u2 a15 a2 r15 r2
          have s7 : IntKind.i64.wrap ((k : Int) - 7) = k - 7 := IntWalk.i64_in _ (by omega)
          have s16 : IntKind.i64.wrap ((k : Int) - 16) = k - 16 := IntWalk.i64_in _ (by omega)
          have n7 : ((k : Int) - 7).toNat = k - 7 := by omega
          have n16 : ((k : Int) - 16).toNat = k - 16 := by omega
          have g7 : 0 ≤ (k : Int) - 7 := by omega
          have g16 : 0 ≤ (k : Int) - 16 := by omega
          have r7 : 7 ≤ (k : Int) := by omega
          have r16 : 16 ≤ (k : Int) := by omega
          have u7 : (k : Int) - 7 < 64 := by omega
          have u16 : (k : Int) - 16 < 64 := by omega
          go_still_tail 15, (by kernel_rfl)
          change wpList _ _ _ _ _ wr.drew
          go_wp2
          go_roundw
          case rel =>
            obtain ⟨hB, hA, hb, hu, hm, hl⟩ := unhide Hh
            obtain ⟨hx, hy, hz, ht⟩ := unhide Hv
            have hn : nextWord l = (bits .xor .u32 (bits .xor .u32 (rotr y 17) (rotr y 19)) (y / 1024) + z + bits .xor .u32 (bits .xor .u32 (rotr x 7) (rotr x 18)) (x / 8) + t) % 4294967296 := by
              simp only [nextWord, hl, hx, hy, hz, ht]
            refine ⟨k + 1, l ++ [nextWord l], by simp [hl], by omega, by omega, hu.snoc (by rw [hn]; omega) (by rw [hn]; omega), ?_, by go_num, ?_, ?_, ?_⟩
            · rw [← hm, show 64 - k = (64 - (k + 1)) + 1 from by omega]; rfl
            · have h := (hB.set_ k (.int .u32 (nextWord l))).drew
              have e := arr64_set l (nextWord l) (by omega)
              rw [hl] at e
              rw [e, hn] at h
              rw [hn]
              exact h
            · exact (hA.far (p := ⟨w.heap.size + 1, k, none⟩) (by simp) _).drew
            · exact (hb.setCell (by simp) _).drew
          case measure => simp [intOf]; omega
        · have hk64 : 64 ≤ k := by omega
          have El : Hid (l = sched b) := by
            have h0 : 64 - k = 0 := by omega
            rw [h0] at hm
            exact hm
          have szB := arr64_size l (by omega)
          have szA := arr64_size [] (by simp)
          have one := arr64_one l
          clear hl hm
          obtain ⟨C, HC⟩ : ∃ C, Hid (arr64 l = C) := ⟨_, rfl⟩
          rw [HC.out] at hB szB one
          obtain ⟨D, HD⟩ : ∃ D, Hid (arr64 [] = D) := ⟨_, rfl⟩
          rw [HD.out] at hA szA
          have HB := hide hB; have HA := hide hA; have Hb := hide hb; clear hA hB hb
          have SB := hide szB; have SA := hide szA; clear szA szB
          have ci : (Tryd.prog.info? 64).map (·.size) = some 64 := by kernel_rfl
          have Ci := hide ci; clear ci
          go_wp2_with (first | (refine wpList_load_row rfl 64 (.tmp 5) rfl (w.heap.size + 1) rfl 64 C (0, 0) _ (unhide HB) Tryd.underlying64 rfl ((unhide Ci).trans (by rw [unhide SB])) ?_) | (refine wpList_store_row rfl 64 (.tmp 4) (.tmp 67) rfl w.heap.size C rfl rfl 64 D (unhide HA) ((unhide Ci).trans (by rw [unhide SB])) ((unhide SA).trans (unhide SB).symm) one ?_))
          refine bodyPost_ret (results_cell_row rfl _ _ w.heap.size 64 C (0, 0) _ rfl (setRow_heap wr _ _ _ _ _ (unhide HA)) Tryd.underlying64 rfl ((unhide Ci).trans (by rw [unhide SB]))) rfl ?_
          exact ⟨by rw [← El.out, HC.out], (unhide Hb).setRow (Nat.le_refl _) _⟩
end Go.Proofs.YtmkecanibedahaaDoor

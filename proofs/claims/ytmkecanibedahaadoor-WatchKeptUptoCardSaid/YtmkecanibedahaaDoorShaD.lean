/-
  CONTRACT of package sha: one block is taken.
-/
import Derived.Test.YtmkecanibedahaaDoorRows
import Derived.Test.YtmkecanibedahaaDoorWd
import Derived.Test.YtmkecanibedahaaDoorShaA
import Derived.Test.YtmkecanibedahaaDoorShaB
import Derived.StillTailTactics
set_option linter.unusedVariables false
set_option linter.unusedSimpArgs false
namespace Go.Proofs.YtmkecanibedahaaDoor
open Go.RowKit
def shaK : List Int := [1116352408, 1899447441, 3049323471, 3921009573, 961987163, 1508970993, 2453635748, 2870763221, 3624381080, 310598401, 607225278, 1426881987, 1925078388, 2162078206, 2614888103, 3248222580, 3835390401, 4022224774, 264347078, 604807628, 770255983, 1249150122, 1555081692, 1996064986, 2554220882, 2821834349, 2952996808, 3210313671, 3336571891, 3584528711, 113926993, 338241895, 666307205, 773529912, 1294757372, 1396182291, 1695183700, 1986661051, 2177026350, 2456956037, 2730485921, 2820302411, 3259730800, 3345764771, 3516065817, 3600352804, 4094571909, 275423344, 430227734, 506948616, 659060556, 883997877, 958139571, 1322822218, 1537002063, 1747873779, 1955562222, 2024104815, 2227730452, 2361852424, 2428436474, 2756734187, 3204031479, 3329325298]
/-- The rounds' constants are there. -/
def TabOk (w : World) : Prop := ∀ i, i < 64 → w.cell? ⟨3, i, none⟩ = some (.int .u32 (shaK.getD i 0))
theorem TabOk.lt {w : World} (h : TabOk w) : 3 < w.heap.size := World.block_lt_of_cell? w _ (h 0 (by omega))
theorem TabOk.below {B : Nat} {w w' : World} (h : TabOk w) (hb : Below B w w') (hB : 3 < B) : TabOk w' :=
  fun i hi => (hb.cell (p := ⟨3, i, none⟩) hB).trans (h i hi)
theorem TabOk.grown {w w' : World} {g : Nat} (h : TabOk w) (hb : w.grownBy w' (some g)) (hg : 3 ≠ g) : TabOk w' :=
  fun i hi => (World.cell?_of_block (hb.block _ h.lt (fun e => hg (by injection e)))).trans (h i hi)
theorem moreWords_length : ∀ (n : Nat) (l : List Int), (moreWords n l).length = l.length + n
  | 0, l => rfl
  | n + 1, l => by rw [moreWords, moreWords_length n]; simp; omega
theorem sched_length (b : List UInt8) : (sched b).length = 64 := by rw [sched, moreWords_length, firstWords_length]
theorem setRow_new (w : World) (Z C : Array Value) (T : TypeId) : Blk ((w.alloc (.cells Z T)).setRow w.heap.size C) w.heap.size T C ∧ Below w.heap.size w ((w.alloc (.cells Z T)).setRow w.heap.size C) ∧ ((w.alloc (.cells Z T)).setRow w.heap.size C).heap.size = w.heap.size + 1 :=
  ⟨setRow_heap _ _ _ _ _ _ (heap_alloc_new w _), ((Below.refl _ _).alloc (Nat.le_refl _) _).setRow (Nat.le_refl _) _, by simp⟩
/-- One round. -/
def rnd (v : List Int) (k w : Int) : List Int :=
  match v with
  | [a, b, c, d, e, f, g, h] =>
    let one := h + bits .xor .u32 (bits .xor .u32 (rotr e 6) (rotr e 11)) (rotr e 25) + bits .xor .u32 (bits .and .u32 e f) (bits .and .u32 (bits .xor .u32 IntKind.u32.max e) g) + k + w
    let two := bits .xor .u32 (bits .xor .u32 (rotr a 2) (rotr a 13)) (rotr a 22) + bits .xor .u32 (bits .xor .u32 (bits .and .u32 a b) (bits .and .u32 a c)) (bits .and .u32 b c)
    [(one + two) % 4294967296, a, b, c, (d + one) % 4294967296, e, f, g]
  | _ => []
def rds (W v : List Int) : Nat → List Int
  | 0 => v
  | k + 1 => rnd (rds W v k) (shaK.getD k 0) (W.getD k 0)
theorem list8 {u : List Int} (h : u.length = 8) : ∃ a0 a1 a2 a3 a4 a5 a6 a7, u = [a0, a1, a2, a3, a4, a5, a6, a7] := by
  match u, h with
  | [a0, a1, a2, a3, a4, a5, a6, a7], _ => exact ⟨a0, a1, a2, a3, a4, a5, a6, a7, rfl⟩
theorem rnd_U32 {a b c d e f g h : Int} (hU : U32 [a, b, c, d, e, f, g, h]) (k w : Int) : U32 (rnd [a, b, c, d, e, f, g, h] k w) := by
  intro x hx
  simp only [rnd, List.mem_cons, List.not_mem_nil, or_false] at hx
  rcases hx with rfl | rfl | rfl | rfl | rfl | rfl | rfl | rfl
  · omega
  · exact hU _ (by simp)
  · exact hU _ (by simp)
  · exact hU _ (by simp)
  · omega
  · exact hU _ (by simp)
  · exact hU _ (by simp)
  · exact hU _ (by simp)
theorem rnd_length {u : List Int} (h : u.length = 8) (k w : Int) : (rnd u k w).length = 8 := by
  obtain ⟨a0, a1, a2, a3, a4, a5, a6, a7, rfl⟩ := list8 h
  rfl
theorem rds_length {W v : List Int} (h : v.length = 8) : ∀ k, (rds W v k).length = 8
  | 0 => h
  | k + 1 => rnd_length (rds_length h k) _ _
/-- What a block makes of the eight words. -/
def comp (v : List Int) (b : List UInt8) : List Int := List.zipWith (fun x y => (x + y) % 4294967296) v (rds (sched b) v 64)
/-- The eight words of which the first j are done. -/
def mix (v r : List Int) (j : Nat) : List Int := (List.zipWith (fun x y => (x + y) % 4294967296) v r).take j ++ v.drop j
/-- The eight words as cells. -/
def st8 (v : List Int) : List Value := v.map (Value.int .u32)
theorem mix_at (v r : List Int) (rest : List Value) (j : Nat) (hv : v.length = 8) (hr : r.length = 8) (hj : j < 8) : (st8 (mix v r j) ++ rest).toArray[j]? = some (.int .u32 (v.getD j 0)) := by
  simp [st8, mix, List.getElem?_append, hv, hr, List.getD, show min j 8 = j from by omega, hj]
  intro h; omega
theorem st8_at (u : List Int) (j : Nat) (h : j < u.length) : (st8 u).toArray[j]? = some (.int .u32 (u.getD j 0)) := by
  simp [st8, List.getD, List.getElem?_eq_getElem h]
theorem mix_set (v r : List Int) (rest : List Value) (j : Nat) (hv : v.length = 8) (hr : r.length = 8) (hj : j < 8) :
    ((st8 (mix v r j) ++ rest).toArray).setIfInBounds j (.int .u32 ((v.getD j 0 + r.getD j 0) % 4294967296)) = (st8 (mix v r (j + 1)) ++ rest).toArray := by
  have hz : (List.zipWith (fun x y => (x + y) % 4294967296) v r).length = 8 := by simp [hv, hr]
  have hzj : (List.zipWith (fun x y => (x + y) % 4294967296) v r)[j]'(by omega) = (v.getD j 0 + r.getD j 0) % 4294967296 := by
    simp [List.getD, List.getElem?_eq_getElem (show j < v.length by omega), List.getElem?_eq_getElem (show j < r.length by omega)]
  apply Array.ext'
  simp only [List.setIfInBounds_toArray, st8, mix]
  rw [List.take_succ_eq_append_getElem (by omega), hzj]
  have hd : v.drop j = v[j]'(by omega) :: v.drop (j + 1) := List.drop_eq_getElem_cons (by omega)
  rw [hd]
  have hl : (List.take j (List.zipWith (fun x y => (x + y) % 4294967296) v r)).length = j := by simp [hv, hr]; omega
  simp only [List.map_append, List.map_cons, List.append_assoc, List.map_nil, List.cons_append, List.nil_append]
  rw [List.set_append_right _ _ (by simp [hv, hr]; omega)]
  simp [hv, hr, show min j 8 = j from by omega]
theorem mix_all (v r : List Int) (hv : v.length = 8) (hr : r.length = 8) : mix v r 8 = List.zipWith (fun x y => (x + y) % 4294967296) v r := by
  unfold mix
  rw [List.take_of_length_le (by simp [hv, hr]), List.drop_eq_nil_of_le (by omega), List.append_nil]
set_option maxRecDepth 100000 in
set_option maxHeartbeats 1000000 in
theorem take_any (T : TypeId) (g : Nat) (v : List Int) (rest : List Value) (s : ByteArray) (w : World) (hs : s.size = 64) (hv : v.length = 8) (hu : U32 v) (htab : TabOk w) (hg : 3 < g)
    (hG : Blk w g T (st8 v ++ rest).toArray) :
    Calls Tryd.prog 29 #[.pointer (some ⟨g, 0, none⟩), .string s] w fun e w' => e = .returned (.tuple #[]) ∧ w.grownBy w' (some g) ∧ Blk w' g T (st8 (comp v s.data.toList) ++ rest).toArray := by
  match v, hv with
  | [v0, v1, v2, v3, v4, v5, v6, v7], _ =>
  obtain ⟨C, HC⟩ : ∃ C, Hid (arr64 (sched s.data.toList) = C) := ⟨_, rfl⟩
  have hw := words_any s w hs
  rw [HC.out] at hw
  have sizeC : C.size = 64 := by rw [← HC.out]; exact arr64_size _ (Nat.le_of_eq (sched_length _))
  have oneC : C.all (·.oneCell') = true := by rw [← HC.out]; exact arr64_one _
  have SizeC := Lib.hid sizeC; clear sizeC
  have ci : (Tryd.prog.info? 64).map (·.size) = some 64 := by kernel_rfl
  have Ci := hide ci; clear ci
  have Hw := hide hw; clear hw
  have d0 := hG.cell 0
  have d1 := hG.cell 1
  have d2 := hG.cell 2
  have d3 := hG.cell 3
  have d4 := hG.cell 4
  have d5 := hG.cell 5
  have d6 := hG.cell 6
  have d7 := hG.cell 7
  simp [st8] at d0 d1 d2 d3 d4 d5 d6 d7
  have HG := hide hG; clear hG
  have Hs := Lib.hid hs; clear hs
  have Htab := hide htab; have Hu := hide hu; clear htab hu
  have glt := (unhide HG).lt
  go_enter Tryd.func29, Tryd.ntmps29
  go_wp2_with fail
  refine (unhide Hw).mono ?_
  rintro e w1 ⟨rfl, hb1⟩
  have bc := bcell hb1
  replace d0 := (bc.1 g 0 glt).trans d0
  replace d1 := (bc.1 g 1 glt).trans d1
  replace d2 := (bc.1 g 2 glt).trans d2
  replace d3 := (bc.1 g 3 glt).trans d3
  replace d4 := (bc.1 g 4 glt).trans d4
  replace d5 := (bc.1 g 5 glt).trans d5
  replace d6 := (bc.1 g 6 glt).trans d6
  replace d7 := (bc.1 g 7 glt).trans d7
  have glt1 : g < w1.heap.size := Nat.lt_of_lt_of_le glt hb1.size
  clear bc
  have Hb1 := hide hb1; clear hb1
  go_wp2_with (first | (refine wpList_store_row rfl 64 (.tmp 4) (.tmp 13) rfl w1.heap.size C rfl rfl 64 _ (heap_alloc_new w1 _) ((unhide Ci).trans (by rw [SizeC.out])) (by rw [SizeC.out]; rfl) oneC ?_; have hX := setRow_new w1 (List.replicate 64 (Value.int .u32 0)).toArray C 64; simp only [List.replicate_succ, List.replicate_zero] at hX; generalize World.setRow _ w1.heap.size C = W2 at hX ⊢; obtain ⟨hC2, hb2, hz2⟩ := hX; have bc := bcell hb2; replace d0 := (bc.1 g 0 glt1).trans d0; replace d1 := (bc.1 g 1 glt1).trans d1; replace d2 := (bc.1 g 2 glt1).trans d2; replace d3 := (bc.1 g 3 glt1).trans d3; replace d4 := (bc.1 g 4 glt1).trans d4; replace d5 := (bc.1 g 5 glt1).trans d5; replace d6 := (bc.1 g 6 glt1).trans d6; replace d7 := (bc.1 g 7 glt1).trans d7; have HC2 := hide hC2; have Hb2 := hide hb2; have Hz2 := hide hz2; clear bc hC2 hb2 hz2))
  have Hd := hide (And.intro d0 (And.intro d1 (And.intro d2 (And.intro d3 (And.intro d4 (And.intro d5 (And.intro d6 d7)))))))
  clear d0 d1 d2 d3 d4 d5 d6 d7
  go_loopw [17] (fun i wr => ∃ (k : Nat) (u : List Int), k ≤ 64 ∧ i = .int .i64 k ∧ u.length = 8 ∧ rds (sched s.data.toList) [v0, v1, v2, v3, v4, v5, v6, v7] k = u ∧ U32 u ∧ Blk wr W2.heap.size 55 (st8 u).toArray ∧ Below W2.heap.size W2 wr) (fun i _ => 64 - (intOf i).toNat)
  case atStart => exact ⟨0, [v0, v1, v2, v3, v4, v5, v6, v7], by omega, rfl, rfl, rfl, unhide Hu, heap_alloc_new W2 _, (Below.refl _ _).alloc (Nat.le_refl _) _⟩
  case round =>
    obtain ⟨k, u, hk, rfl, hul, hr, hU, hB, hb⟩ := hrel
    by_cases hlt : k < 64
    · obtain ⟨a0, a1, a2, a3, a4, a5, a6, a7, rfl⟩ := list8 hul
      clear hul
      have d0 := hB.cell 0
      have d1 := hB.cell 1
      have d2 := hB.cell 2
      have d3 := hB.cell 3
      have d4 := hB.cell 4
      have d5 := hB.cell 5
      have d6 := hB.cell 6
      have d7 := hB.cell 7
      simp [st8] at d0 d1 d2 d3 d4 d5 d6 d7
      have tk := ((unhide Htab).below (unhide Hb1) (unhide Htab).lt).below ((unhide Hb2).trans (hb.mono (by rw [unhide Hz2]; omega))) (Nat.lt_of_lt_of_le (unhide Htab).lt (unhide Hb1).size) k hlt
      have wk := (hb.cell (p := ⟨w1.heap.size, k, none⟩) (by rw [unhide Hz2]; simp)).trans ((unhide HC2).cell k)
      have hck : C[k]? = some (.int .u32 ((sched s.data.toList).getD k 0)) := by rw [← HC.out]; exact arr64_get _ _ (by rw [sched_length]; exact hlt)
      rw [hck] at wk; clear hck
      obtain ⟨x0, x0'⟩ := hU.at_ 0
      obtain ⟨x4, x4'⟩ := hU.at_ 4
      simp at x0 x0' x4 x4'
      generalize hwk : (sched s.data.toList).getD k 0 = wv at *
      generalize htk : shaK.getD k 0 = kv at *
      have Hr := hide (And.intro hr (And.intro hwk (And.intro htk (And.intro hU (And.intro hB hb))))); clear hr hwk htk hU hB hb
      go_wp2_with fail
      go_quiet (fail)
      go_wp2_with fail
      go_quiet ((go_at_call 40; exact quiet_add_left (turned_any _ _ _ (by assumption) (by assumption) (by omega) (by omega))))
      go_wp2_with fail
      go_quiet ((go_at_call 40; exact quiet_add_left (turned_any _ _ _ (by assumption) (by assumption) (by omega) (by omega))))
      go_wp2_with (refine wpList_store_row rfl 55 (.tmp 5) (.tmp 97) rfl W2.heap.size (st8 (rnd [a0, a1, a2, a3, a4, a5, a6, a7] kv wv)).toArray (by kernel_rfl) (by kernel_rfl) 55 (st8 [a0, a1, a2, a3, a4, a5, a6, a7]).toArray (unhide Hr).2.2.2.2.1 (by kernel_rfl) (by kernel_rfl) (by kernel_rfl) ?_)
      go_roundw
      case rel =>
        obtain ⟨hr, hwk, htk, hU, hB, hb⟩ := unhide Hr
        exact ⟨k + 1, rnd [a0, a1, a2, a3, a4, a5, a6, a7] kv wv, by omega, by go_num, rfl, by rw [rds, hr, hwk, htk], rnd_U32 hU _ _, setRow_heap _ _ _ _ _ _ hB, (below_drewN hb _).setRow (Nat.le_refl _) _⟩
      case measure => simp [intOf]; omega
    · have hk64 : 64 ≤ k := by omega
      have glt2 : g < wr.heap.size := by have h1 := hb.size; have h2 := unhide Hz2; omega
      have hgV : g < W2.heap.size := by have h2 := unhide Hz2; omega
      obtain ⟨d0, d1, d2, d3, d4, d5, d6, d7⟩ := unhide Hd
      have hG2 : Blk wr g T (st8 [v0, v1, v2, v3, v4, v5, v6, v7] ++ rest).toArray :=
        (((unhide HG).below (unhide Hb1) glt).below (unhide Hb2) glt1).below hb hgV
      clear d0 d1 d2 d3 d4 d5 d6 d7
      have hgr : w.grownBy wr (some g) := only_of_below (((unhide Hb1).trans ((unhide Hb2).mono (unhide Hb1).size)).trans (hb.mono (by have h1 := (unhide Hb1).size; have h2 := unhide Hz2; omega))) _
      have Hr := hide (And.intro hr (And.intro hU hul)); clear hr hU
      have hwV : w.heap.size ≤ W2.heap.size := by have h1 := (unhide Hb1).size; have h2 := unhide Hz2; omega
      have Hx := hide (And.intro hB (And.intro hG2 (And.intro hgr hul))); clear hB hG2 hgr hul hb
      clear glt2 glt1
      go_wp2_with fail
      go_loopw [99] (fun i wz => ∃ j : Nat, j ≤ 8 ∧ i = .int .i64 j ∧ Blk wz g T (st8 (mix [v0, v1, v2, v3, v4, v5, v6, v7] u j) ++ rest).toArray ∧ Blk wz W2.heap.size 55 (st8 u).toArray ∧ w.grownBy wz (some g)) (fun i _ => 8 - (intOf i).toNat)
      case atStart => exact ⟨0, by omega, rfl, (unhide Hx).2.1, (unhide Hx).1, (unhide Hx).2.2.1⟩
      case round =>
        have hul := (unhide Hx).2.2.2
        have Hul := hide hul; clear hul
        clear Hx
        obtain ⟨j, hj, rfl, hG, hV, hgr⟩ := hrel
        by_cases hlt : j < 8
        · have cg := (hG.cell j).trans (mix_at _ u rest j rfl (unhide Hul) hlt)
          have cv := (hV.cell j).trans (st8_at u j (by rw [unhide Hul]; exact hlt))
          have fg := hG.frozen j
          generalize hx : [v0, v1, v2, v3, v4, v5, v6, v7].getD j 0 = x at cg
          generalize hy : u.getD j 0 = y at cv
          have Hy := hide (And.intro hx (And.intro hy (And.intro hG (And.intro hV hgr)))); clear hx hy hG hV hgr
          go_wp2_with fail
          go_still_tail 11, (by kernel_rfl)
          change wpList _ _ _ _ _ (World.drew _)
          go_wp2
          go_roundw
          case rel =>
            obtain ⟨hx, hy, hG, hV, hgr⟩ := unhide Hy
            have hs := mix_set [v0, v1, v2, v3, v4, v5, v6, v7] u rest j rfl (unhide Hul) hlt
            rw [hx, hy] at hs
            have h := hG.set_ j (.int .u32 ((x + y) % 4294967296))
            rw [hs] at h
            exact ⟨j + 1, by omega, by go_num, h.drew, (hV.far (p := ⟨g, j, none⟩) (by simp; omega) _).drew, only_drew (only_setCell (p := ⟨g, j, none⟩) hgr (.inl rfl) _)⟩
          case measure => simp [intOf]; omega
        · have hj8 : 8 ≤ j := by omega
          have Hy := hide (And.intro hG hgr); clear hG hgr hV
          go_wp2
          go_end0
          obtain ⟨hG, hgr⟩ := unhide Hy
          obtain ⟨hr, hU, hul⟩ := unhide Hr
          refine ⟨rfl, hgr, ?_⟩
          obtain rfl : j = 8 := by omega
          rw [mix_all _ _ rfl (unhide Hul), ← hr] at hG
          have : k = 64 := by omega
          subst this
          exact hG
end Go.Proofs.YtmkecanibedahaaDoor

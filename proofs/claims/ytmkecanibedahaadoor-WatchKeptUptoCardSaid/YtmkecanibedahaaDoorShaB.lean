/-
  CONTRACTS of package sha and of its reference: the words of a block.
-/
import Derived.Test.YtmkecanibedahaaDoorRows
import Derived.Test.YtmkecanibedahaaDoorWd
import Derived.Test.YtmkecanibedahaaDoorShaA
import Derived.StillTailTactics
set_option linter.unusedVariables false
set_option linter.unusedSimpArgs false
namespace Go.Proofs.YtmkecanibedahaaDoor
open Go.RowKit
/-- An array of 64 words of which the first are these; the others are nought. -/
def arr64 (l : List Int) : Array Value := (l.map (Value.int .u32) ++ List.replicate (64 - l.length) (Value.int .u32 0)).toArray
theorem arr64_size (l : List Int) (h : l.length ≤ 64) : (arr64 l).size = 64 := by simp [arr64]; omega
theorem arr64_get (l : List Int) (j : Nat) (hj : j < l.length) : (arr64 l)[j]? = some (.int .u32 (l.getD j 0)) := by
  simp [arr64, List.getElem?_append, hj, List.getD]
theorem arr64_zero (l : List Int) (j : Nat) (hj : l.length ≤ j) (h : j < 64) : (arr64 l)[j]? = some (.int .u32 0) := by
  simp only [arr64, List.getElem?_toArray]
  rw [List.getElem?_append_right (by simpa using hj), List.getElem?_replicate, if_pos (by simp; omega)]
theorem arr64_set (l : List Int) (v : Int) (h : l.length < 64) : (arr64 l).setIfInBounds l.length (.int .u32 v) = arr64 (l ++ [v]) := by
  unfold arr64
  apply Array.ext'
  have e : 64 - l.length = (64 - (l ++ [v]).length) + 1 := by simp; omega
  rw [e, List.replicate_succ]
  simp [List.set_append]
theorem arr64_one (l : List Int) : (arr64 l).all (·.oneCell') = true := by
  rw [Array.all_eq_true]
  intro i hi
  have h := List.getElem_mem (l := l.map (Value.int .u32) ++ List.replicate (64 - l.length) (Value.int .u32 0)) (n := i) (by simpa [arr64] using hi)
  simp only [arr64, List.getElem_toArray]
  rcases List.mem_append.1 h with h | h
  · obtain ⟨x, _, hx⟩ := List.mem_map.1 h
    rw [← hx]; rfl
  · rw [List.eq_of_mem_replicate h]; rfl
theorem _root_.Go.RowKit.Below.setRow {B : Nat} {a w : World} (h : Below B a w) {g : Nat} (hg : B ≤ g) (cs : Array Value) : Below B a (w.setRow g cs) :=
  h.trans ⟨rfl, rfl, rfl, by simp [World.setRow], fun k hk => by simp only [World.setRow, Array.getElem?_modify]; rw [if_neg (by omega)]⟩
/-- The word that follows from those before it. -/
def nextWord (l : List Int) : Int :=
  let t := l.length
  let x := l.getD (t - 15) 0
  let y := l.getD (t - 2) 0
  let s0 := bits .xor .u32 (bits .xor .u32 (rotr x 7) (rotr x 18)) (x / 8)
  let s1 := bits .xor .u32 (bits .xor .u32 (rotr y 17) (rotr y 19)) (y / 1024)
  (s1 + l.getD (t - 7) 0 + s0 + l.getD (t - 16) 0) % 4294967296
def moreWords : Nat → List Int → List Int
  | 0, l => l
  | n + 1, l => moreWords n (l ++ [nextWord l])
/-- The first n words of a block. -/
def firstWords (b : List UInt8) : Nat → List Int
  | 0 => []
  | n + 1 => firstWords b n ++ [beN ((b.drop (4 * n)).take 4)]
theorem firstWords_length (b : List UInt8) (n : Nat) : (firstWords b n).length = n := by
  induction n with
  | zero => rfl
  | succ n ih => simp [firstWords, ih]
/-- The 64 words of a block. -/
def sched (b : List UInt8) : List Int := moreWords 48 (firstWords b 16)
def U32 (l : List Int) : Prop := ∀ x ∈ l, 0 ≤ x ∧ x < 4294967296
theorem U32.at_ {l : List Int} (h : U32 l) (j : Nat) : 0 ≤ l.getD j 0 ∧ l.getD j 0 < 4294967296 := by
  by_cases hj : j < l.length
  · rw [List.getD_eq_getElem?_getD, List.getElem?_eq_getElem hj]
    exact h _ (List.getElem_mem hj)
  · rw [List.getD_eq_getElem?_getD, List.getElem?_eq_none (by omega)]
    simp
theorem U32.snoc {l : List Int} {v : Int} (h : U32 l) (h0 : 0 ≤ v) (h1 : v < 4294967296) : U32 (l ++ [v]) := by
  intro x hx
  rcases List.mem_append.1 hx with hx | hx
  · exact h x hx
  · simp at hx; subst hx; exact ⟨h0, h1⟩
theorem firstWords_U32 (b : List UInt8) (n : Nat) : U32 (firstWords b n) := by
  induction n with
  | zero => intro x hx; simp [firstWords] at hx
  | succ n ih =>
    have h4 : ((b.drop (4 * n)).take 4).length ≤ 4 := List.length_take_le _ _
    obtain ⟨h0, h1⟩ := beN_lt _ ((b.drop (4 * n)).take 4) rfl
    have hp : ∀ m : Nat, m ≤ 4 → (256 : Int) ^ m ≤ 4294967296 := by
      intro m hm
      have hk4 : m = 0 ∨ m = 1 ∨ m = 2 ∨ m = 3 ∨ m = 4 := by omega
      rcases hk4 with h | h | h | h | h <;> rw [h] <;> decide
    have := hp _ h4
    exact ih.snoc h0 (by omega)
theorem extract_list (s : ByteArray) (a b : Nat) (h : b ≤ s.size) : (s.extract a b).data.toList = (s.data.toList.drop a).take (b - a) := by
  simp [ByteArray.extract, ByteArray.copySlice]
set_option maxRecDepth 100000 in
set_option maxHeartbeats 1000000 in
theorem words_any (s : ByteArray) (w : World) (hs : s.size = 64) :
    Calls Tryd.prog 39 #[.string s] w fun e w' => e = .returned (.agg (arr64 (sched s.data.toList))) ∧ Below w.heap.size w w' := by
  have hs1 : s.size ≤ 64 := by omega
  have hs2 : 64 ≤ s.size := by omega
  have Hs := Lib.hid hs; clear hs
  go_enter Tryd.func39, Tryd.ntmps39
  go_wp2
  go_loopw [10] (fun i wr => ∃ k : Nat, k ≤ 16 ∧ i = .int .i64 k ∧ Blk wr (w.heap.size + 1) 64 (arr64 (firstWords s.data.toList k)) ∧ Blk wr w.heap.size 64 (arr64 []) ∧ Below w.heap.size w wr) (fun i _ => 16 - (intOf i).toNat)
  case atStart => exact ⟨0, by omega, rfl, heap_alloc2_new w _ _, heap_alloc2_old w _ _, ((Below.refl _ _).alloc (Nat.le_refl _) _).alloc (by simp) _⟩
  case round =>
    obtain ⟨k, hk, rfl, hB, hA, hb⟩ := hrel
    by_cases hlt : k < 16
    · have c1 := (hB.cell k).trans (arr64_zero _ k (by rw [firstWords_length]; omega) (by omega))
      have f1 := hB.frozen k
      have Hh := hide (And.intro hB (And.intro hA hb)); clear hB hA hb
      go_wp2_with fail
      refine (number_any _ _ (by simp; omega)).mono ?_
      rintro e w1 ⟨rfl, rfl⟩
      go_wp2
      go_roundw
      case rel =>
        obtain ⟨hB, hA, hb⟩ := unhide Hh
        refine ⟨k + 1, by omega, by go_num, ?_, hA.far (p := ⟨w.heap.size + 1, k, none⟩) (by simp) _, hb.setCell (by simp) _⟩
        have h := hB.set_ k (.int .u32 (beN (List.take 4 (List.drop (4 * k) s.data.toList))))
        have e := arr64_set (firstWords s.data.toList k) (beN (List.take 4 (List.drop (4 * k) s.data.toList))) (by rw [firstWords_length]; omega)
        rw [firstWords_length] at e
        rw [e] at h
        exact h
      case measure => simp [intOf]; omega
    · have hk16 : 16 ≤ k := by omega
      go_wp2_with fail
      go_loopw [5] (fun i wr => ∃ (k : Nat) (l : List Int), l.length = k ∧ 16 ≤ k ∧ k ≤ 64 ∧ U32 l ∧ moreWords (64 - k) l = sched s.data.toList ∧ i = .int .i64 k ∧ Blk wr (w.heap.size + 1) 64 (arr64 l) ∧ Blk wr w.heap.size 64 (arr64 []) ∧ Below w.heap.size w wr) (fun i _ => 64 - (intOf i).toNat)
      case atStart => 
        obtain rfl : k = 16 := by omega
        exact ⟨16, firstWords s.data.toList 16, firstWords_length _ _, by omega, by omega, firstWords_U32 _ _, rfl, rfl, hB, hA, hb⟩
      case round =>
        clear hA hB hb
        obtain ⟨k, l, hl, hk1, hk2, hu, hm, rfl, hB, hA, hb⟩ := hrel
        by_cases hlt : k < 64
        · have a15 := (hB.cell (k - 15)).trans (arr64_get l _ (by omega))
          have a2 := (hB.cell (k - 2)).trans (arr64_get l _ (by omega))
          have a7 := (hB.cell (k - 7)).trans (arr64_get l _ (by omega))
          have a16 := (hB.cell (k - 16)).trans (arr64_get l _ (by omega))
          have at_ := (hB.cell k).trans (arr64_zero l k (by omega) (by omega))
          have ft := hB.frozen k
          obtain ⟨x0, x1⟩ := hu.at_ (k - 15)
          obtain ⟨y0, y1⟩ := hu.at_ (k - 2)
          obtain ⟨z0, z1⟩ := hu.at_ (k - 7)
          obtain ⟨t0, t1⟩ := hu.at_ (k - 16)
          generalize hx : l.getD (k - 15) 0 = x at *
          generalize hy : l.getD (k - 2) 0 = y at *
          generalize hz : l.getD (k - 7) 0 = z at *
          generalize ht : l.getD (k - 16) 0 = t at *
          have Hv := hide (And.intro hx (And.intro hy (And.intro hz ht))); clear hx hy hz ht
          have Hh := hide (And.intro hB (And.intro hA (And.intro hb (And.intro hu (And.intro hm hl))))); clear hB hA hb hu hm hl
          have s15 : IntKind.i64.wrap ((k : Int) - 15) = k - 15 := IntWalk.i64_in _ (by omega)
          have s2 : IntKind.i64.wrap ((k : Int) - 2) = k - 2 := IntWalk.i64_in _ (by omega)
          have n15 : ((k : Int) - 15).toNat = k - 15 := by omega
          have n2 : ((k : Int) - 2).toNat = k - 2 := by omega
          have g15 : 0 ≤ (k : Int) - 15 := by omega
          have g2 : 0 ≤ (k : Int) - 2 := by omega
          have u15 : (k : Int) - 15 < 64 := by omega
          have u2 : (k : Int) - 2 < 64 := by omega
          go_wp2_with fail
          go_quiet (fail)
          go_wp2_with fail
          refine (turned_any x 7 _ x0 x1 (by omega) (by omega)).mono ?_
          rintro e w1 ⟨rfl, rfl⟩
          go_wp2_with fail
          refine (turned_any x 18 _ x0 x1 (by omega) (by omega)).mono ?_
          rintro e w1 ⟨rfl, rfl⟩
          go_wp2_with fail
          refine (turned_any y 17 _ y0 y1 (by omega) (by omega)).mono ?_
          rintro e w1 ⟨rfl, rfl⟩
          go_wp2_with fail
          refine (turned_any y 19 _ y0 y1 (by omega) (by omega)).mono ?_
          rintro e w1 ⟨rfl, rfl⟩
          go_wp2_with fail
          clear s15 s2 n15 n2 g15 g2 u15 u2 a15 a2
          have s7 : IntKind.i64.wrap ((k : Int) - 7) = k - 7 := IntWalk.i64_in _ (by omega)
          have s16 : IntKind.i64.wrap ((k : Int) - 16) = k - 16 := IntWalk.i64_in _ (by omega)
          have n7 : ((k : Int) - 7).toNat = k - 7 := by omega
          have n16 : ((k : Int) - 16).toNat = k - 16 := by omega
          have g7 : 0 ≤ (k : Int) - 7 := by omega
          have g16 : 0 ≤ (k : Int) - 16 := by omega
          have r7 : 7 ≤ (k : Int) := by omega
          have r16 : 16 ≤ (k : Int) := by omega
          have u7 : (k : Int) - 7 < 64 := by omega
          have u16 : (k : Int) - 16 < 64 := by omega
          obtain ⟨W2, HW2⟩ : ∃ W2, Hid (W2 = wr.drewN nq) := ⟨_, rfl⟩
          have e2 : wr.drewN nq = W2 := HW2.out.symm
          rw [e2]
          replace a7 : W2.cell? ⟨w.heap.size + 1, k - 7, none⟩ = some (Value.int .u32 z) := by rw [← e2]; exact a7
          replace a16 : W2.cell? ⟨w.heap.size + 1, k - 16, none⟩ = some (Value.int .u32 t) := by rw [← e2]; exact a16
          replace at_ : W2.cell? ⟨w.heap.size + 1, k, none⟩ = some (Value.int .u32 0) := by rw [← e2]; exact at_
          replace ft : W2.frozen? ⟨w.heap.size + 1, k, none⟩ = false := by rw [← e2]; exact ft
          clear e2
          go_still_tail 15, (by kernel_rfl)
          change wpList _ _ _ _ _ W2.drew
          go_wp2
          go_roundw
          case rel =>
            obtain ⟨hB, hA, hb, hu, hm, hl⟩ := unhide Hh
            obtain ⟨hx, hy, hz, ht⟩ := unhide Hv
            have hW := HW2.out
            subst hW
            have hn : nextWord l = (bits .xor .u32 (bits .xor .u32 (rotr y 17) (rotr y 19)) (y / 1024) + z + bits .xor .u32 (bits .xor .u32 (rotr x 7) (rotr x 18)) (x / 8) + t) % 4294967296 := by
              simp only [nextWord, hl, hx, hy, hz, ht]
            refine ⟨k + 1, l ++ [nextWord l], by simp [hl], by omega, by omega, hu.snoc (by rw [hn]; omega) (by rw [hn]; omega), ?_, by go_num, ?_, ?_, ?_⟩
            · rw [← hm, show 64 - k = (64 - (k + 1)) + 1 from by omega]; rfl
            · have h := ((hB.drewN nq).set_ k (.int .u32 (nextWord l))).drew
              have e := arr64_set l (nextWord l) (by omega)
              rw [hl] at e
              rw [e, hn] at h
              rw [hn]
              exact h
            · exact ((hA.drewN nq).far (p := ⟨w.heap.size + 1, k, none⟩) (by simp) _).drew
            · exact ((below_drewN hb nq).setCell (by simp) _).drew
          case measure => simp [intOf]; omega
        · have hk64 : 64 ≤ k := by omega
          have El : Hid (l = sched s.data.toList) := by
            have h0 : 64 - k = 0 := by omega
            rw [h0] at hm
            exact hm
          have szB := arr64_size l (by omega)
          have szA := arr64_size [] (by simp)
          have one := arr64_one l
          clear hl hm
          obtain ⟨C, HC⟩ : ∃ C, Hid (arr64 l = C) := ⟨_, rfl⟩
          rw [HC.out] at hB szB one
          obtain ⟨D, HD⟩ : ∃ D, Hid (arr64 [] = D) := ⟨_, rfl⟩
          rw [HD.out] at hA szA
          have HB := hide hB; have HA := hide hA; have Hb := hide hb; clear hA hB hb
          have SB := hide szB; have SA := hide szA; clear szA szB
          have ci : (Tryd.prog.info? 64).map (·.size) = some 64 := by kernel_rfl
          have Ci := hide ci; clear ci
          go_wp2_with (first | (refine wpList_load_row rfl 64 (.tmp 3) rfl (w.heap.size + 1) rfl 64 C (0, 0) _ (unhide HB) Tryd.underlying64 rfl ((unhide Ci).trans (by rw [unhide SB])) ?_) | (refine wpList_store_row rfl 64 (.tmp 2) (.tmp 67) rfl w.heap.size C rfl rfl 64 D (unhide HA) ((unhide Ci).trans (by rw [unhide SB])) ((unhide SA).trans (unhide SB).symm) one ?_))
          refine bodyPost_ret (results_cell_row rfl _ _ w.heap.size 64 C (0, 0) _ rfl (setRow_heap wr _ _ _ _ _ (unhide HA)) Tryd.underlying64 rfl ((unhide Ci).trans (by rw [unhide SB]))) rfl ?_
          exact ⟨by rw [← El.out, HC.out], (unhide Hb).setRow (Nat.le_refl _) _⟩
end Go.Proofs.YtmkecanibedahaaDoor

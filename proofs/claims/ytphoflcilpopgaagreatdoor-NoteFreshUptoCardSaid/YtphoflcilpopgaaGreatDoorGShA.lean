/-
  Several texts in one: CONTRACTS of package sha and of its reference: turning, numbers out of bytes. | CONTRACTS of package sha and of its reference: the words of a block. | CONTRACT of package sha: one block is taken. | CONTRACTS of the reference of package sha: the words of a block. | CONTRACT of the reference of package sha: one block.
-/
import Derived.Test.YtphoflcilpopgaaGreatDoorRows
import Derived.StillTailTactics
import Derived.Test.YtphoflcilpopgaaGreatDoorGBase
set_option linter.unusedVariables false
set_option linter.unusedSimpArgs false
namespace Go.Proofs.YtphoflcilpopgaaGreatDoor
open Go.RowKit
/-- x turned right by n bits, as the reference writes it. -/
def rotr (x : Int) (n : Nat) : Int := bits .or .u32 (x / 2 ^ n) (x * 2 ^ (32 - n) % 4294967296)
theorem bits_or_comm (k : IntKind) (a b : Int) : bits .or k a b = bits .or k b a := by
  cases k <;> simp [bits, BitVec.or_comm]
theorem neg_and (n : Nat) (hn : 0 < n) (hn2 : n < 32) : bits .and .u64 (IntKind.u64.wrap (-(n : Int))) 31 = ((32 - n : Nat) : Int) := by
  have h : ∀ n : Nat, n < 32 → 0 < n → bits .and .u64 (IntKind.u64.wrap (-(n : Int))) 31 = ((32 - n : Nat) : Int) := by decide +kernel
  exact h n hn2 hn
set_option maxHeartbeats 400000 in
theorem rotl_any (x : Int) (n : Nat) (w : World) (h0 : 0 ≤ x) (h1 : x < 4294967296) (hn : 0 < n) (hn2 : n < 32) :
    Calls Tryz.prog 108 #[.int .u32 x, .int .i64 (-(n : Int))] w fun e w' => e = .returned (.int .u32 (rotr x n)) ∧ w = w' := by
  have hna := neg_and n hn hn2
  generalize hm : 32 - n = m at hna
  have Hm := Lib.hid hm; clear hm
  have hm1 : m < 32 := by have := Hm.out; omega
  have hm2 : 0 < m := by have := Hm.out; omega
  go_enter Tryz.func108, Tryz.ntmps108
  go_wp2
  go_ret
  refine ⟨?_, rfl⟩
  show Ending.returned (.int .u32 (bits .or .u32 (x * 2 ^ m % 4294967296) (x / 2 ^ (32 - m)))) = _
  have e1 : 32 - n = m := Hm.out
  have e2 : 32 - m = n := by omega
  unfold rotr
  rw [e1, e2, bits_or_comm]
set_option maxHeartbeats 400000 in
theorem rotr_any (x : Int) (n : Nat) (w : World) (h0 : 0 ≤ x) (h1 : x < 4294967296) (hn : 0 < n) (hn2 : n < 32) :
    Calls Tryz.prog 84 #[.int .u32 x, .int .u64 n] w fun e w' => e = .returned (.int .u32 (rotr x n)) ∧ w = w' := by
  go_enter Tryz.func84, Tryz.ntmps84
  go_wp2
  go_ret
  exact ⟨rfl, rfl⟩
theorem rotr_int (x : Int) (n : Int) (w : World) (h0 : 0 ≤ x) (h1 : x < 4294967296) (hn : 0 < n) (hn2 : n < 32) :
    Calls Tryz.prog 84 #[.int .u32 x, .int .u64 n] w fun e w' => e = .returned (.int .u32 (rotr x n.toNat)) ∧ w = w' := by
  obtain ⟨m, rfl⟩ := Int.eq_ofNat_of_zero_le (Int.le_of_lt hn)
  rw [Int.toNat_natCast]
  exact rotr_any x m w h0 h1 (by omega) (by omega)
theorem rotr_range (x : Int) (n : Nat) : 0 ≤ rotr x n ∧ rotr x n < 4294967296 := by
  unfold rotr bits
  simp only [IntKind.wrap_u32]
  omega
set_option maxHeartbeats 400000 in
theorem turned_any (x : Int) (n : Int) (w : World) (h0 : 0 ≤ x) (h1 : x < 4294967296) (hn : 0 < n) (hn2 : n < 32) :
    Calls Tryz.prog 101 #[.int .u32 x, .int .i64 n] w fun e w' => e = .returned (.int .u32 (rotr x n.toNat)) ∧ w = w' := by
  obtain ⟨m, rfl⟩ := Int.eq_ofNat_of_zero_le (Int.le_of_lt hn)
  rw [Int.toNat_natCast]
  have hm : 0 < m := by omega
  have hm2 : m < 32 := by omega
  go_enter Tryz.func101, Tryz.ntmps101
  go_wp2_with fail
  refine (rotl_any x m _ h0 h1 hm hm2).mono ?_
  rintro e w1 ⟨rfl, rfl⟩
  go_wp2
  go_ret
  exact ⟨rfl, rfl⟩
/-- The number that four bytes are. -/
def be4 (a b c d : Int) : Int := ((a * 256 + b) * 256 + c) * 256 + d
def beN (l : List UInt8) : Int := l.foldl (fun v b => v * 256 + b.toNat) 0
theorem beN_snoc (l : List UInt8) (b : UInt8) : beN (l ++ [b]) = beN l * 256 + b.toNat := by simp [beN]
theorem beN_lt : ∀ (k : Nat) (l : List UInt8), l.length = k → 0 ≤ beN l ∧ beN l < 256 ^ k := by
  intro k
  induction k with
  | zero => intro l hl; obtain rfl := List.eq_nil_of_length_eq_zero hl; simp [beN]
  | succ k ih =>
    intro l hl
    have hne : l ≠ [] := by rintro rfl; simp at hl
    obtain ⟨l', b, rfl⟩ : ∃ l' b, l = l' ++ [b] := ⟨l.dropLast, l.getLast hne, (List.dropLast_concat_getLast hne).symm⟩
    have hl' : l'.length = k := by simp at hl; omega
    have h := ih l' hl'
    have hb := b.toNat_lt
    rw [beN_snoc, Int.pow_succ]
    omega
theorem or8 (v b : Int) (h0 : 0 ≤ v) (h1 : v < 16777216) (h2 : 0 ≤ b) (h3 : b < 256) : bits .or .u32 (v * 256) b = v * 256 + b := by
  rw [u32_or _ _ (by omega) (by omega) h2 (by omega), nat_join 8 _ _ (by omega) (by omega)]
  omega
theorem take_snoc (s : ByteArray) (k : Nat) (h : k < s.size) : s.data.toList.take (k + 1) = s.data.toList.take k ++ [s[k]] := by
  rw [List.take_succ_eq_append_getElem (by simpa using h)]; rfl
set_option maxHeartbeats 400000 in
theorem number_any (s : ByteArray) (w : World) (hs : s.size ≤ 4) :
    Calls Tryz.prog 107 #[.string s] w fun e w' => e = .returned (.int .u32 (beN s.data.toList)) ∧ w = w' := by
  go_enter Tryz.func107, Tryz.ntmps107
  go_wp2
  go_loop [3, 7] (fun v i => ∃ k : Nat, k ≤ s.size ∧ i = .int .i64 k ∧ v = .int .u32 (beN (s.data.toList.take k))) (fun _ i => s.size - (intOf i).toNat)
  case atStart => exact ⟨0, Nat.zero_le _, rfl, rfl⟩
  case round =>
    obtain ⟨k, hk, rfl, rfl⟩ := hrel
    by_cases hlt : k < s.size
    · have hts := take_snoc s k hlt
      have hl : (s.data.toList.take k).length = k := by simp; omega
      have hv := beN_lt k _ hl
      have hv1 : beN (s.data.toList.take k) < 16777216 := by
        have hp : (256 : Int) ^ k ≤ 16777216 := by
          have hk4 : k = 0 ∨ k = 1 ∨ k = 2 ∨ k = 3 := by omega
          rcases hk4 with h | h | h | h <;> rw [h] <;> decide
        have := hv.2
        omega
      have hv0 := hv.1
      have hb : ((s[k]'hlt).toNat : Int) < 256 := by have := s[k].toNat_lt; omega
      have HS : Hid (beN (s.data.toList.take (k + 1)) = beN (s.data.toList.take k) * 256 + (s[k].toNat : Int)) := by rw [hts]; exact beN_snoc _ _
      have hor := or8 _ _ hv0 hv1 (Int.natCast_nonneg (s[k].toNat)) hb
      clear hts hv hl
      go_wp2
      go_round
      case rel => exact ⟨k + 1, by omega, by go_num, by rw [HS.out]⟩
      case measure => simp [intOf]; omega
    · go_wp2
      go_ret
      exact ⟨ret_int (by rw [List.take_of_length_le (by simp; omega)]), rfl⟩
theorem orJoin (i : Nat) (a b : Int) (h0 : 0 ≤ a) (h1 : a < 4294967296) (h2 : 0 ≤ b) (h3 : b < 4294967296) (ha : a.toNat % 2 ^ i = 0) (hb : b.toNat < 2 ^ i) : bits .or .u32 a b = a + b := by
  rw [u32_or _ _ h0 h1 h2 h3, nat_join i _ _ ha hb]
  omega
theorem or4 (b0 b1 b2 b3 : UInt8) : bits .or .u32 (bits .or .u32 (bits .or .u32 ((b0.toNat : Int) * 16777216) ((b1.toNat : Int) * 65536)) ((b2.toNat : Int) * 256)) (b3.toNat : Int) = beN [b0, b1, b2, b3] := by
  have h0 := b0.toNat_lt
  have h1 := b1.toNat_lt
  have h2 := b2.toNat_lt
  have h3 := b3.toNat_lt
  rw [orJoin 24 ((b0.toNat : Int) * 16777216) ((b1.toNat : Int) * 65536) (by omega) (by omega) (by omega) (by omega) (by omega) (by omega)]
  rw [orJoin 16 ((b0.toNat : Int) * 16777216 + (b1.toNat : Int) * 65536) ((b2.toNat : Int) * 256) (by omega) (by omega) (by omega) (by omega) (by omega) (by omega)]
  rw [orJoin 8 ((b0.toNat : Int) * 16777216 + (b1.toNat : Int) * 65536 + (b2.toNat : Int) * 256) (b3.toNat : Int) (by omega) (by omega) (by omega) (by omega) (by omega) (by omega)]
  simp only [beN, List.foldl_cons, List.foldl_nil]
  omega
set_option maxHeartbeats 400000 in
/-- The reference's word: the four bytes from p on. -/
theorem word_nat (g : Nat) (n c : Nat) (p : Nat) (b0 b1 b2 b3 : UInt8) (w : World) (hn : n ≤ maxLen) (hp : p + 3 < n)
    (c0 : w.cell? ⟨g, p, none⟩ = some (.int .u8 b0.toNat)) (c1 : w.cell? ⟨g, p + 1, none⟩ = some (.int .u8 b1.toNat)) (c2 : w.cell? ⟨g, p + 2, none⟩ = some (.int .u8 b2.toNat)) (c3 : w.cell? ⟨g, p + 3, none⟩ = some (.int .u8 b3.toNat)) :
    Calls Tryz.prog 97 #[.slice (some ⟨g, 0, none⟩) n c, .int .i64 p] w fun e w' => e = .returned (.int .u32 (beN [b0, b1, b2, b3])) ∧ ∃ k, w' = w.drewN k := by
  have hn' : n ≤ 9223372036854775807 := by simpa [maxLen] using hn
  have h0 := b0.toNat_lt
  have h1 := b1.toNat_lt
  have h2 := b2.toNat_lt
  have h3 := b3.toNat_lt
  go_enter Tryz.func97, Tryz.ntmps97
  have s1 : IntKind.i64.wrap ((p : Int) + 1) = p + 1 := IntWalk.i64_in _ (by omega)
  have s2 : IntKind.i64.wrap ((p : Int) + 2) = p + 2 := IntWalk.i64_in _ (by omega)
  have s3 : IntKind.i64.wrap ((p : Int) + 3) = p + 3 := IntWalk.i64_in _ (by omega)
  have t1 : ((p : Int) + 1).toNat = p + 1 := by omega
  have t2 : ((p : Int) + 2).toNat = p + 2 := by omega
  have t3 : ((p : Int) + 3).toNat = p + 3 := by omega
  have g1 : ((p : Int) + 1) < n := by omega
  have g2 : ((p : Int) + 2) < n := by omega
  have g3 : ((p : Int) + 3) < n := by omega
  have g0 : ((p : Int)) < n := by omega
  have f1 : 0 ≤ ((p : Int) + 1) := by omega
  have f2 : 0 ≤ ((p : Int) + 2) := by omega
  have f3 : 0 ≤ ((p : Int) + 3) := by omega
  have f0 : 0 ≤ (p : Int) := by omega
  go_wp2
  go_quiet (fail)
  go_wp2
  go_ret
  exact ⟨ret_int (or4 b0 b1 b2 b3), _, rfl⟩
theorem word_any (g : Nat) (n c : Nat) (p : Int) (b0 b1 b2 b3 : UInt8) (w : World) (hn : n ≤ maxLen) (hp0 : 0 ≤ p) (hp : p + 3 < n)
    (c0 : w.cell? ⟨g, p.toNat, none⟩ = some (.int .u8 b0.toNat)) (c1 : w.cell? ⟨g, p.toNat + 1, none⟩ = some (.int .u8 b1.toNat)) (c2 : w.cell? ⟨g, p.toNat + 2, none⟩ = some (.int .u8 b2.toNat)) (c3 : w.cell? ⟨g, p.toNat + 3, none⟩ = some (.int .u8 b3.toNat)) :
    Calls Tryz.prog 97 #[.slice (some ⟨g, 0, none⟩) n c, .int .i64 p] w fun e w' => e = .returned (.int .u32 (beN [b0, b1, b2, b3])) ∧ ∃ k, w' = w.drewN k := by
  obtain ⟨q, rfl⟩ := Int.eq_ofNat_of_zero_le hp0
  exact word_nat g n c q b0 b1 b2 b3 w hn (by omega) c0 c1 c2 c3
end Go.Proofs.YtphoflcilpopgaaGreatDoor

set_option linter.unusedVariables false
set_option linter.unusedSimpArgs false
namespace Go.Proofs.YtphoflcilpopgaaGreatDoor
open Go.RowKit
/-- An array of 64 words of which the first are these; the others are nought. -/
def arr64 (l : List Int) : Array Value := (l.map (Value.int .u32) ++ List.replicate (64 - l.length) (Value.int .u32 0)).toArray
theorem arr64_size (l : List Int) (h : l.length ≤ 64) : (arr64 l).size = 64 := by simp [arr64]; omega
theorem arr64_get (l : List Int) (j : Nat) (hj : j < l.length) : (arr64 l)[j]? = some (.int .u32 (l.getD j 0)) := by
  simp [arr64, List.getElem?_append, hj, List.getD]
theorem arr64_zero (l : List Int) (j : Nat) (hj : l.length ≤ j) (h : j < 64) : (arr64 l)[j]? = some (.int .u32 0) := by
  simp only [arr64, List.getElem?_toArray]
  rw [List.getElem?_append_right (by simpa using hj), List.getElem?_replicate, if_pos (by simp; omega)]
theorem arr64_set (l : List Int) (v : Int) (h : l.length < 64) : (arr64 l).setIfInBounds l.length (.int .u32 v) = arr64 (l ++ [v]) := by
  unfold arr64
  apply Array.ext'
  have e : 64 - l.length = (64 - (l ++ [v]).length) + 1 := by simp; omega
  rw [e, List.replicate_succ]
  simp [List.set_append]
theorem arr64_one (l : List Int) : (arr64 l).all (·.oneCell') = true := by
  rw [Array.all_eq_true]
  intro i hi
  have h := List.getElem_mem (l := l.map (Value.int .u32) ++ List.replicate (64 - l.length) (Value.int .u32 0)) (n := i) (by simpa [arr64] using hi)
  simp only [arr64, List.getElem_toArray]
  rcases List.mem_append.1 h with h | h
  · obtain ⟨x, _, hx⟩ := List.mem_map.1 h
    rw [← hx]; rfl
  · rw [List.eq_of_mem_replicate h]; rfl
theorem _root_.Go.RowKit.Below.setRow {B : Nat} {a w : World} (h : Below B a w) {g : Nat} (hg : B ≤ g) (cs : Array Value) : Below B a (w.setRow g cs) :=
  h.trans ⟨rfl, rfl, rfl, by simp [World.setRow], fun k hk => by simp only [World.setRow, Array.getElem?_modify]; rw [if_neg (by omega)]⟩
/-- The word that follows from those before it. -/
def nextWord (l : List Int) : Int :=
  let t := l.length
  let x := l.getD (t - 15) 0
  let y := l.getD (t - 2) 0
  let s0 := bits .xor .u32 (bits .xor .u32 (rotr x 7) (rotr x 18)) (x / 8)
  let s1 := bits .xor .u32 (bits .xor .u32 (rotr y 17) (rotr y 19)) (y / 1024)
  (s1 + l.getD (t - 7) 0 + s0 + l.getD (t - 16) 0) % 4294967296
def moreWords : Nat → List Int → List Int
  | 0, l => l
  | n + 1, l => moreWords n (l ++ [nextWord l])
/-- The first n words of a block. -/
def firstWords (b : List UInt8) : Nat → List Int
  | 0 => []
  | n + 1 => firstWords b n ++ [beN ((b.drop (4 * n)).take 4)]
theorem firstWords_length (b : List UInt8) (n : Nat) : (firstWords b n).length = n := by
  induction n with
  | zero => rfl
  | succ n ih => simp [firstWords, ih]
/-- The 64 words of a block. -/
def sched (b : List UInt8) : List Int := moreWords 48 (firstWords b 16)
def U32 (l : List Int) : Prop := ∀ x ∈ l, 0 ≤ x ∧ x < 4294967296
theorem U32.at_ {l : List Int} (h : U32 l) (j : Nat) : 0 ≤ l.getD j 0 ∧ l.getD j 0 < 4294967296 := by
  by_cases hj : j < l.length
  · rw [List.getD_eq_getElem?_getD, List.getElem?_eq_getElem hj]
    exact h _ (List.getElem_mem hj)
  · rw [List.getD_eq_getElem?_getD, List.getElem?_eq_none (by omega)]
    simp
theorem U32.snoc {l : List Int} {v : Int} (h : U32 l) (h0 : 0 ≤ v) (h1 : v < 4294967296) : U32 (l ++ [v]) := by
  intro x hx
  rcases List.mem_append.1 hx with hx | hx
  · exact h x hx
  · simp at hx; subst hx; exact ⟨h0, h1⟩
theorem firstWords_U32 (b : List UInt8) (n : Nat) : U32 (firstWords b n) := by
  induction n with
  | zero => intro x hx; simp [firstWords] at hx
  | succ n ih =>
    have h4 : ((b.drop (4 * n)).take 4).length ≤ 4 := List.length_take_le _ _
    obtain ⟨h0, h1⟩ := beN_lt _ ((b.drop (4 * n)).take 4) rfl
    have hp : ∀ m : Nat, m ≤ 4 → (256 : Int) ^ m ≤ 4294967296 := by
      intro m hm
      have hk4 : m = 0 ∨ m = 1 ∨ m = 2 ∨ m = 3 ∨ m = 4 := by omega
      rcases hk4 with h | h | h | h | h <;> rw [h] <;> decide
    have := hp _ h4
    exact ih.snoc h0 (by omega)
theorem extract_list (s : ByteArray) (a b : Nat) (h : b ≤ s.size) : (s.extract a b).data.toList = (s.data.toList.drop a).take (b - a) := by
  simp [ByteArray.extract, ByteArray.copySlice]
set_option maxRecDepth 100000 in
set_option maxHeartbeats 1000000 in
theorem words_any (s : ByteArray) (w : World) (hs : s.size = 64) :
    Calls Tryz.prog 100 #[.string s] w fun e w' => e = .returned (.agg (arr64 (sched s.data.toList))) ∧ Below w.heap.size w w' := by
  have hs1 : s.size ≤ 64 := by omega
  have hs2 : 64 ≤ s.size := by omega
  have Hs := Lib.hid hs; clear hs
  go_enter Tryz.func100, Tryz.ntmps100
  go_wp2
  go_loopw [10] (fun i wr => ∃ k : Nat, k ≤ 16 ∧ i = .int .i64 k ∧ Blk wr (w.heap.size + 1) 128 (arr64 (firstWords s.data.toList k)) ∧ Blk wr w.heap.size 128 (arr64 []) ∧ Below w.heap.size w wr) (fun i _ => 16 - (intOf i).toNat)
  case atStart => exact ⟨0, by omega, rfl, heap_alloc2_new w _ _, heap_alloc2_old w _ _, ((Below.refl _ _).alloc (Nat.le_refl _) _).alloc (by simp) _⟩
  case round =>
    obtain ⟨k, hk, rfl, hB, hA, hb⟩ := hrel
    by_cases hlt : k < 16
    · have c1 := (hB.cell k).trans (arr64_zero _ k (by rw [firstWords_length]; omega) (by omega))
      have f1 := hB.frozen k
      have Hh := hide (And.intro hB (And.intro hA hb)); clear hB hA hb
      go_wp2_with fail
      refine (number_any _ _ (by simp; omega)).mono ?_
      rintro e w1 ⟨rfl, rfl⟩
      go_wp2
      go_roundw
      case rel =>
        obtain ⟨hB, hA, hb⟩ := unhide Hh
        refine ⟨k + 1, by omega, by go_num, ?_, hA.far (p := ⟨w.heap.size + 1, k, none⟩) (by simp) _, hb.setCell (by simp) _⟩
        have h := hB.set_ k (.int .u32 (beN (List.take 4 (List.drop (4 * k) s.data.toList))))
        have e := arr64_set (firstWords s.data.toList k) (beN (List.take 4 (List.drop (4 * k) s.data.toList))) (by rw [firstWords_length]; omega)
        rw [firstWords_length] at e
        rw [e] at h
        exact h
      case measure => simp [intOf]; omega
    · have hk16 : 16 ≤ k := by omega
      go_wp2_with fail
      go_loopw [5] (fun i wr => ∃ (k : Nat) (l : List Int), l.length = k ∧ 16 ≤ k ∧ k ≤ 64 ∧ U32 l ∧ moreWords (64 - k) l = sched s.data.toList ∧ i = .int .i64 k ∧ Blk wr (w.heap.size + 1) 128 (arr64 l) ∧ Blk wr w.heap.size 128 (arr64 []) ∧ Below w.heap.size w wr) (fun i _ => 64 - (intOf i).toNat)
      case atStart => 
        obtain rfl : k = 16 := by omega
        exact ⟨16, firstWords s.data.toList 16, firstWords_length _ _, by omega, by omega, firstWords_U32 _ _, rfl, rfl, hB, hA, hb⟩
      case round =>
        clear hA hB hb
        obtain ⟨k, l, hl, hk1, hk2, hu, hm, rfl, hB, hA, hb⟩ := hrel
        by_cases hlt : k < 64
        · have a15 := (hB.cell (k - 15)).trans (arr64_get l _ (by omega))
          have a2 := (hB.cell (k - 2)).trans (arr64_get l _ (by omega))
          have a7 := (hB.cell (k - 7)).trans (arr64_get l _ (by omega))
          have a16 := (hB.cell (k - 16)).trans (arr64_get l _ (by omega))
          have at_ := (hB.cell k).trans (arr64_zero l k (by omega) (by omega))
          have ft := hB.frozen k
          obtain ⟨x0, x1⟩ := hu.at_ (k - 15)
          obtain ⟨y0, y1⟩ := hu.at_ (k - 2)
          obtain ⟨z0, z1⟩ := hu.at_ (k - 7)
          obtain ⟨t0, t1⟩ := hu.at_ (k - 16)
          generalize hx : l.getD (k - 15) 0 = x at *
          generalize hy : l.getD (k - 2) 0 = y at *
          generalize hz : l.getD (k - 7) 0 = z at *
          generalize ht : l.getD (k - 16) 0 = t at *
          have Hv := hide (And.intro hx (And.intro hy (And.intro hz ht))); clear hx hy hz ht
          have Hh := hide (And.intro hB (And.intro hA (And.intro hb (And.intro hu (And.intro hm hl))))); clear hB hA hb hu hm hl
          have s15 : IntKind.i64.wrap ((k : Int) - 15) = k - 15 := IntWalk.i64_in _ (by omega)
          have s2 : IntKind.i64.wrap ((k : Int) - 2) = k - 2 := IntWalk.i64_in _ (by omega)
          have n15 : ((k : Int) - 15).toNat = k - 15 := by omega
          have n2 : ((k : Int) - 2).toNat = k - 2 := by omega
          have g15 : 0 ≤ (k : Int) - 15 := by omega
          have g2 : 0 ≤ (k : Int) - 2 := by omega
          have u15 : (k : Int) - 15 < 64 := by omega
          have u2 : (k : Int) - 2 < 64 := by omega
          go_wp2_with fail
          go_quiet (fail)
          go_wp2_with fail
          refine (turned_any x 7 _ x0 x1 (by omega) (by omega)).mono ?_
          rintro e w1 ⟨rfl, rfl⟩
          go_wp2_with fail
          refine (turned_any x 18 _ x0 x1 (by omega) (by omega)).mono ?_
          rintro e w1 ⟨rfl, rfl⟩
          go_wp2_with fail
          refine (turned_any y 17 _ y0 y1 (by omega) (by omega)).mono ?_
          rintro e w1 ⟨rfl, rfl⟩
          go_wp2_with fail
          refine (turned_any y 19 _ y0 y1 (by omega) (by omega)).mono ?_
          rintro e w1 ⟨rfl, rfl⟩
          go_wp2_with fail
          clear s15 s2 n15 n2 g15 g2 u15 u2 a15 a2
          have s7 : IntKind.i64.wrap ((k : Int) - 7) = k - 7 := IntWalk.i64_in _ (by omega)
          have s16 : IntKind.i64.wrap ((k : Int) - 16) = k - 16 := IntWalk.i64_in _ (by omega)
          have n7 : ((k : Int) - 7).toNat = k - 7 := by omega
          have n16 : ((k : Int) - 16).toNat = k - 16 := by omega
          have g7 : 0 ≤ (k : Int) - 7 := by omega
          have g16 : 0 ≤ (k : Int) - 16 := by omega
          have r7 : 7 ≤ (k : Int) := by omega
          have r16 : 16 ≤ (k : Int) := by omega
          have u7 : (k : Int) - 7 < 64 := by omega
          have u16 : (k : Int) - 16 < 64 := by omega
          obtain ⟨W2, HW2⟩ : ∃ W2, Hid (W2 = wr.drewN nq) := ⟨_, rfl⟩
          have e2 : wr.drewN nq = W2 := HW2.out.symm
          rw [e2]
          replace a7 : W2.cell? ⟨w.heap.size + 1, k - 7, none⟩ = some (Value.int .u32 z) := by rw [← e2]; exact a7
          replace a16 : W2.cell? ⟨w.heap.size + 1, k - 16, none⟩ = some (Value.int .u32 t) := by rw [← e2]; exact a16
          replace at_ : W2.cell? ⟨w.heap.size + 1, k, none⟩ = some (Value.int .u32 0) := by rw [← e2]; exact at_
          replace ft : W2.frozen? ⟨w.heap.size + 1, k, none⟩ = false := by rw [← e2]; exact ft
          clear e2
          go_still_tail 15, (by kernel_rfl)
          change wpList _ _ _ _ _ W2.drew
          go_wp2
          go_roundw
          case rel =>
            obtain ⟨hB, hA, hb, hu, hm, hl⟩ := unhide Hh
            obtain ⟨hx, hy, hz, ht⟩ := unhide Hv
            have hW := HW2.out
            subst hW
            have hn : nextWord l = (bits .xor .u32 (bits .xor .u32 (rotr y 17) (rotr y 19)) (y / 1024) + z + bits .xor .u32 (bits .xor .u32 (rotr x 7) (rotr x 18)) (x / 8) + t) % 4294967296 := by
              simp only [nextWord, hl, hx, hy, hz, ht]
            refine ⟨k + 1, l ++ [nextWord l], by simp [hl], by omega, by omega, hu.snoc (by rw [hn]; omega) (by rw [hn]; omega), ?_, by go_num, ?_, ?_, ?_⟩
            · rw [← hm, show 64 - k = (64 - (k + 1)) + 1 from by omega]; rfl
            · have h := ((hB.drewN nq).set_ k (.int .u32 (nextWord l))).drew
              have e := arr64_set l (nextWord l) (by omega)
              rw [hl] at e
              rw [e, hn] at h
              rw [hn]
              exact h
            · exact ((hA.drewN nq).far (p := ⟨w.heap.size + 1, k, none⟩) (by simp) _).drew
            · exact ((below_drewN hb nq).setCell (by simp) _).drew
          case measure => simp [intOf]; omega
        · have hk64 : 64 ≤ k := by omega
          have El : Hid (l = sched s.data.toList) := by
            have h0 : 64 - k = 0 := by omega
            rw [h0] at hm
            exact hm
          have szB := arr64_size l (by omega)
          have szA := arr64_size [] (by simp)
          have one := arr64_one l
          clear hl hm
          obtain ⟨C, HC⟩ : ∃ C, Hid (arr64 l = C) := ⟨_, rfl⟩
          rw [HC.out] at hB szB one
          obtain ⟨D, HD⟩ : ∃ D, Hid (arr64 [] = D) := ⟨_, rfl⟩
          rw [HD.out] at hA szA
          have HB := hide hB; have HA := hide hA; have Hb := hide hb; clear hA hB hb
          have SB := hide szB; have SA := hide szA; clear szA szB
          have ci : (Tryz.prog.info? 128).map (·.size) = some 64 := by kernel_rfl
          have Ci := hide ci; clear ci
          go_wp2_with (first | (refine wpList_load_row rfl 128 (.tmp 3) rfl (w.heap.size + 1) rfl 128 C (0, 0) _ (unhide HB) Tryz.underlying128 rfl ((unhide Ci).trans (by rw [unhide SB])) ?_) | (refine wpList_store_row rfl 128 (.tmp 2) (.tmp 67) rfl w.heap.size C rfl rfl 128 D (unhide HA) ((unhide Ci).trans (by rw [unhide SB])) ((unhide SA).trans (unhide SB).symm) one ?_))
          refine bodyPost_ret (results_cell_row rfl _ _ w.heap.size 128 C (0, 0) _ rfl (setRow_heap wr _ _ _ _ _ (unhide HA)) Tryz.underlying128 rfl ((unhide Ci).trans (by rw [unhide SB]))) rfl ?_
          exact ⟨by rw [← El.out, HC.out], (unhide Hb).setRow (Nat.le_refl _) _⟩
end Go.Proofs.YtphoflcilpopgaaGreatDoor

set_option linter.unusedVariables false
set_option linter.unusedSimpArgs false
namespace Go.Proofs.YtphoflcilpopgaaGreatDoor
open Go.RowKit
def shaK : List Int := [1116352408, 1899447441, 3049323471, 3921009573, 961987163, 1508970993, 2453635748, 2870763221, 3624381080, 310598401, 607225278, 1426881987, 1925078388, 2162078206, 2614888103, 3248222580, 3835390401, 4022224774, 264347078, 604807628, 770255983, 1249150122, 1555081692, 1996064986, 2554220882, 2821834349, 2952996808, 3210313671, 3336571891, 3584528711, 113926993, 338241895, 666307205, 773529912, 1294757372, 1396182291, 1695183700, 1986661051, 2177026350, 2456956037, 2730485921, 2820302411, 3259730800, 3345764771, 3516065817, 3600352804, 4094571909, 275423344, 430227734, 506948616, 659060556, 883997877, 958139571, 1322822218, 1537002063, 1747873779, 1955562222, 2024104815, 2227730452, 2361852424, 2428436474, 2756734187, 3204031479, 3329325298]
/-- The rounds' constants are there. -/
def TabOk (w : World) : Prop := ∀ i, i < 64 → w.cell? ⟨4, i, none⟩ = some (.int .u32 (shaK.getD i 0))
theorem TabOk.lt {w : World} (h : TabOk w) : 4 < w.heap.size := World.block_lt_of_cell? w _ (h 0 (by omega))
theorem TabOk.below {B : Nat} {w w' : World} (h : TabOk w) (hb : Below B w w') (hB : 4 < B) : TabOk w' :=
  fun i hi => (hb.cell (p := ⟨4, i, none⟩) hB).trans (h i hi)
theorem TabOk.grown {w w' : World} {g : Nat} (h : TabOk w) (hb : w.grownBy w' (some g)) (hg : 4 ≠ g) : TabOk w' :=
  fun i hi => (World.cell?_of_block (hb.block _ h.lt (fun e => hg (by injection e)))).trans (h i hi)
theorem moreWords_length : ∀ (n : Nat) (l : List Int), (moreWords n l).length = l.length + n
  | 0, l => rfl
  | n + 1, l => by rw [moreWords, moreWords_length n]; simp; omega
theorem sched_length (b : List UInt8) : (sched b).length = 64 := by rw [sched, moreWords_length, firstWords_length]
theorem setRow_new (w : World) (Z C : Array Value) (T : TypeId) : Blk ((w.alloc (.cells Z T)).setRow w.heap.size C) w.heap.size T C ∧ Below w.heap.size w ((w.alloc (.cells Z T)).setRow w.heap.size C) ∧ ((w.alloc (.cells Z T)).setRow w.heap.size C).heap.size = w.heap.size + 1 :=
  ⟨setRow_heap _ _ _ _ _ _ (heap_alloc_new w _), ((Below.refl _ _).alloc (Nat.le_refl _) _).setRow (Nat.le_refl _) _, by simp⟩
/-- One round. -/
def rnd (v : List Int) (k w : Int) : List Int :=
  match v with
  | [a, b, c, d, e, f, g, h] =>
    let one := h + bits .xor .u32 (bits .xor .u32 (rotr e 6) (rotr e 11)) (rotr e 25) + bits .xor .u32 (bits .and .u32 e f) (bits .and .u32 (bits .xor .u32 IntKind.u32.max e) g) + k + w
    let two := bits .xor .u32 (bits .xor .u32 (rotr a 2) (rotr a 13)) (rotr a 22) + bits .xor .u32 (bits .xor .u32 (bits .and .u32 a b) (bits .and .u32 a c)) (bits .and .u32 b c)
    [(one + two) % 4294967296, a, b, c, (d + one) % 4294967296, e, f, g]
  | _ => []
def rds (W v : List Int) : Nat → List Int
  | 0 => v
  | k + 1 => rnd (rds W v k) (shaK.getD k 0) (W.getD k 0)
theorem list8 {u : List Int} (h : u.length = 8) : ∃ a0 a1 a2 a3 a4 a5 a6 a7, u = [a0, a1, a2, a3, a4, a5, a6, a7] := by
  match u, h with
  | [a0, a1, a2, a3, a4, a5, a6, a7], _ => exact ⟨a0, a1, a2, a3, a4, a5, a6, a7, rfl⟩
theorem rnd_U32 {a b c d e f g h : Int} (hU : U32 [a, b, c, d, e, f, g, h]) (k w : Int) : U32 (rnd [a, b, c, d, e, f, g, h] k w) := by
  intro x hx
  simp only [rnd, List.mem_cons, List.not_mem_nil, or_false] at hx
  rcases hx with rfl | rfl | rfl | rfl | rfl | rfl | rfl | rfl
  · omega
  · exact hU _ (by simp)
  · exact hU _ (by simp)
  · exact hU _ (by simp)
  · omega
  · exact hU _ (by simp)
  · exact hU _ (by simp)
  · exact hU _ (by simp)
theorem rnd_length {u : List Int} (h : u.length = 8) (k w : Int) : (rnd u k w).length = 8 := by
  obtain ⟨a0, a1, a2, a3, a4, a5, a6, a7, rfl⟩ := list8 h
  rfl
theorem rds_length {W v : List Int} (h : v.length = 8) : ∀ k, (rds W v k).length = 8
  | 0 => h
  | k + 1 => rnd_length (rds_length h k) _ _
/-- What a block makes of the eight words. -/
def comp (v : List Int) (b : List UInt8) : List Int := List.zipWith (fun x y => (x + y) % 4294967296) v (rds (sched b) v 64)
/-- The eight words of which the first j are done. -/
def mix (v r : List Int) (j : Nat) : List Int := (List.zipWith (fun x y => (x + y) % 4294967296) v r).take j ++ v.drop j
/-- The eight words as cells. -/
def st8 (v : List Int) : List Value := v.map (Value.int .u32)
theorem mix_at (v r : List Int) (rest : List Value) (j : Nat) (hv : v.length = 8) (hr : r.length = 8) (hj : j < 8) : (st8 (mix v r j) ++ rest).toArray[j]? = some (.int .u32 (v.getD j 0)) := by
  simp [st8, mix, List.getElem?_append, hv, hr, List.getD, show min j 8 = j from by omega, hj]
  intro h; omega
theorem st8_at (u : List Int) (j : Nat) (h : j < u.length) : (st8 u).toArray[j]? = some (.int .u32 (u.getD j 0)) := by
  simp [st8, List.getD, List.getElem?_eq_getElem h]
theorem mix_set (v r : List Int) (rest : List Value) (j : Nat) (hv : v.length = 8) (hr : r.length = 8) (hj : j < 8) :
    ((st8 (mix v r j) ++ rest).toArray).setIfInBounds j (.int .u32 ((v.getD j 0 + r.getD j 0) % 4294967296)) = (st8 (mix v r (j + 1)) ++ rest).toArray := by
  have hz : (List.zipWith (fun x y => (x + y) % 4294967296) v r).length = 8 := by simp [hv, hr]
  have hzj : (List.zipWith (fun x y => (x + y) % 4294967296) v r)[j]'(by omega) = (v.getD j 0 + r.getD j 0) % 4294967296 := by
    simp [List.getD, List.getElem?_eq_getElem (show j < v.length by omega), List.getElem?_eq_getElem (show j < r.length by omega)]
  apply Array.ext'
  simp only [List.setIfInBounds_toArray, st8, mix]
  rw [List.take_succ_eq_append_getElem (by omega), hzj]
  have hd : v.drop j = v[j]'(by omega) :: v.drop (j + 1) := List.drop_eq_getElem_cons (by omega)
  rw [hd]
  have hl : (List.take j (List.zipWith (fun x y => (x + y) % 4294967296) v r)).length = j := by simp [hv, hr]; omega
  simp only [List.map_append, List.map_cons, List.append_assoc, List.map_nil, List.cons_append, List.nil_append]
  rw [List.set_append_right _ _ (by simp [hv, hr]; omega)]
  simp [hv, hr, show min j 8 = j from by omega]
theorem mix_all (v r : List Int) (hv : v.length = 8) (hr : r.length = 8) : mix v r 8 = List.zipWith (fun x y => (x + y) % 4294967296) v r := by
  unfold mix
  rw [List.take_of_length_le (by simp [hv, hr]), List.drop_eq_nil_of_le (by omega), List.append_nil]
set_option maxRecDepth 100000 in
set_option maxHeartbeats 1000000 in
theorem take_any (T : TypeId) (g : Nat) (v : List Int) (rest : List Value) (s : ByteArray) (w : World) (hs : s.size = 64) (hv : v.length = 8) (hu : U32 v) (htab : TabOk w) (hg : 4 < g)
    (hG : Blk w g T (st8 v ++ rest).toArray) :
    Calls Tryz.prog 90 #[.pointer (some ⟨g, 0, none⟩), .string s] w fun e w' => e = .returned (.tuple #[]) ∧ w.grownBy w' (some g) ∧ Blk w' g T (st8 (comp v s.data.toList) ++ rest).toArray := by
  match v, hv with
  | [v0, v1, v2, v3, v4, v5, v6, v7], _ =>
  obtain ⟨C, HC⟩ : ∃ C, Hid (arr64 (sched s.data.toList) = C) := ⟨_, rfl⟩
  have hw := words_any s w hs
  rw [HC.out] at hw
  have sizeC : C.size = 64 := by rw [← HC.out]; exact arr64_size _ (Nat.le_of_eq (sched_length _))
  have oneC : C.all (·.oneCell') = true := by rw [← HC.out]; exact arr64_one _
  have SizeC := Lib.hid sizeC; clear sizeC
  have ci : (Tryz.prog.info? 128).map (·.size) = some 64 := by kernel_rfl
  have Ci := hide ci; clear ci
  have Hw := hide hw; clear hw
  have d0 := hG.cell 0
  have d1 := hG.cell 1
  have d2 := hG.cell 2
  have d3 := hG.cell 3
  have d4 := hG.cell 4
  have d5 := hG.cell 5
  have d6 := hG.cell 6
  have d7 := hG.cell 7
  simp [st8] at d0 d1 d2 d3 d4 d5 d6 d7
  have HG := hide hG; clear hG
  have Hs := Lib.hid hs; clear hs
  have Htab := hide htab; have Hu := hide hu; clear htab hu
  have glt := (unhide HG).lt
  go_enter Tryz.func90, Tryz.ntmps90
  go_wp2_with fail
  refine (unhide Hw).mono ?_
  rintro e w1 ⟨rfl, hb1⟩
  have bc := bcell hb1
  replace d0 := (bc.1 g 0 glt).trans d0
  replace d1 := (bc.1 g 1 glt).trans d1
  replace d2 := (bc.1 g 2 glt).trans d2
  replace d3 := (bc.1 g 3 glt).trans d3
  replace d4 := (bc.1 g 4 glt).trans d4
  replace d5 := (bc.1 g 5 glt).trans d5
  replace d6 := (bc.1 g 6 glt).trans d6
  replace d7 := (bc.1 g 7 glt).trans d7
  have glt1 : g < w1.heap.size := Nat.lt_of_lt_of_le glt hb1.size
  clear bc
  have Hb1 := hide hb1; clear hb1
  go_wp2_with (first | (refine wpList_store_row rfl 128 (.tmp 4) (.tmp 13) rfl w1.heap.size C rfl rfl 128 _ (heap_alloc_new w1 _) ((unhide Ci).trans (by rw [SizeC.out])) (by rw [SizeC.out]; rfl) oneC ?_; have hX := setRow_new w1 (List.replicate 64 (Value.int .u32 0)).toArray C 128; simp only [List.replicate_succ, List.replicate_zero] at hX; generalize World.setRow _ w1.heap.size C = W2 at hX ⊢; obtain ⟨hC2, hb2, hz2⟩ := hX; have bc := bcell hb2; replace d0 := (bc.1 g 0 glt1).trans d0; replace d1 := (bc.1 g 1 glt1).trans d1; replace d2 := (bc.1 g 2 glt1).trans d2; replace d3 := (bc.1 g 3 glt1).trans d3; replace d4 := (bc.1 g 4 glt1).trans d4; replace d5 := (bc.1 g 5 glt1).trans d5; replace d6 := (bc.1 g 6 glt1).trans d6; replace d7 := (bc.1 g 7 glt1).trans d7; have HC2 := hide hC2; have Hb2 := hide hb2; have Hz2 := hide hz2; clear bc hC2 hb2 hz2))
  have Hd := hide (And.intro d0 (And.intro d1 (And.intro d2 (And.intro d3 (And.intro d4 (And.intro d5 (And.intro d6 d7)))))))
  clear d0 d1 d2 d3 d4 d5 d6 d7
  go_loopw [17] (fun i wr => ∃ (k : Nat) (u : List Int), k ≤ 64 ∧ i = .int .i64 k ∧ u.length = 8 ∧ rds (sched s.data.toList) [v0, v1, v2, v3, v4, v5, v6, v7] k = u ∧ U32 u ∧ Blk wr W2.heap.size 132 (st8 u).toArray ∧ Below W2.heap.size W2 wr) (fun i _ => 64 - (intOf i).toNat)
  case atStart => exact ⟨0, [v0, v1, v2, v3, v4, v5, v6, v7], by omega, rfl, rfl, rfl, unhide Hu, heap_alloc_new W2 _, (Below.refl _ _).alloc (Nat.le_refl _) _⟩
  case round =>
    obtain ⟨k, u, hk, rfl, hul, hr, hU, hB, hb⟩ := hrel
    by_cases hlt : k < 64
    · obtain ⟨a0, a1, a2, a3, a4, a5, a6, a7, rfl⟩ := list8 hul
      clear hul
      have d0 := hB.cell 0
      have d1 := hB.cell 1
      have d2 := hB.cell 2
      have d3 := hB.cell 3
      have d4 := hB.cell 4
      have d5 := hB.cell 5
      have d6 := hB.cell 6
      have d7 := hB.cell 7
      simp [st8] at d0 d1 d2 d3 d4 d5 d6 d7
      have tk := ((unhide Htab).below (unhide Hb1) (unhide Htab).lt).below ((unhide Hb2).trans (hb.mono (by rw [unhide Hz2]; omega))) (Nat.lt_of_lt_of_le (unhide Htab).lt (unhide Hb1).size) k hlt
      have wk := (hb.cell (p := ⟨w1.heap.size, k, none⟩) (by rw [unhide Hz2]; simp)).trans ((unhide HC2).cell k)
      have hck : C[k]? = some (.int .u32 ((sched s.data.toList).getD k 0)) := by rw [← HC.out]; exact arr64_get _ _ (by rw [sched_length]; exact hlt)
      rw [hck] at wk; clear hck
      obtain ⟨x0, x0'⟩ := hU.at_ 0
      obtain ⟨x4, x4'⟩ := hU.at_ 4
      simp at x0 x0' x4 x4'
      generalize hwk : (sched s.data.toList).getD k 0 = wv at *
      generalize htk : shaK.getD k 0 = kv at *
      have Hr := hide (And.intro hr (And.intro hwk (And.intro htk (And.intro hU (And.intro hB hb))))); clear hr hwk htk hU hB hb
      go_wp2_with fail
      go_quiet (fail)
      go_wp2_with fail
      go_quiet ((go_at_call 101; exact quiet_add_left (turned_any _ _ _ (by assumption) (by assumption) (by omega) (by omega))))
      go_wp2_with fail
      go_quiet ((go_at_call 101; exact quiet_add_left (turned_any _ _ _ (by assumption) (by assumption) (by omega) (by omega))))
      go_wp2_with (refine wpList_store_row rfl 132 (.tmp 5) (.tmp 97) rfl W2.heap.size (st8 (rnd [a0, a1, a2, a3, a4, a5, a6, a7] kv wv)).toArray (by kernel_rfl) (by kernel_rfl) 132 (st8 [a0, a1, a2, a3, a4, a5, a6, a7]).toArray (unhide Hr).2.2.2.2.1 (by kernel_rfl) (by kernel_rfl) (by kernel_rfl) ?_)
      go_roundw
      case rel =>
        obtain ⟨hr, hwk, htk, hU, hB, hb⟩ := unhide Hr
        exact ⟨k + 1, rnd [a0, a1, a2, a3, a4, a5, a6, a7] kv wv, by omega, by go_num, rfl, by rw [rds, hr, hwk, htk], rnd_U32 hU _ _, setRow_heap _ _ _ _ _ _ hB, (below_drewN hb _).setRow (Nat.le_refl _) _⟩
      case measure => simp [intOf]; omega
    · have hk64 : 64 ≤ k := by omega
      have glt2 : g < wr.heap.size := by have h1 := hb.size; have h2 := unhide Hz2; omega
      have hgV : g < W2.heap.size := by have h2 := unhide Hz2; omega
      obtain ⟨d0, d1, d2, d3, d4, d5, d6, d7⟩ := unhide Hd
      have hG2 : Blk wr g T (st8 [v0, v1, v2, v3, v4, v5, v6, v7] ++ rest).toArray :=
        (((unhide HG).below (unhide Hb1) glt).below (unhide Hb2) glt1).below hb hgV
      clear d0 d1 d2 d3 d4 d5 d6 d7
      have hgr : w.grownBy wr (some g) := only_of_below (((unhide Hb1).trans ((unhide Hb2).mono (unhide Hb1).size)).trans (hb.mono (by have h1 := (unhide Hb1).size; have h2 := unhide Hz2; omega))) _
      have Hr := hide (And.intro hr (And.intro hU hul)); clear hr hU
      have hwV : w.heap.size ≤ W2.heap.size := by have h1 := (unhide Hb1).size; have h2 := unhide Hz2; omega
      have Hx := hide (And.intro hB (And.intro hG2 (And.intro hgr hul))); clear hB hG2 hgr hul hb
      clear glt2 glt1
      go_wp2_with fail
      go_loopw [99] (fun i wz => ∃ j : Nat, j ≤ 8 ∧ i = .int .i64 j ∧ Blk wz g T (st8 (mix [v0, v1, v2, v3, v4, v5, v6, v7] u j) ++ rest).toArray ∧ Blk wz W2.heap.size 132 (st8 u).toArray ∧ w.grownBy wz (some g)) (fun i _ => 8 - (intOf i).toNat)
      case atStart => exact ⟨0, by omega, rfl, (unhide Hx).2.1, (unhide Hx).1, (unhide Hx).2.2.1⟩
      case round =>
        have hul := (unhide Hx).2.2.2
        have Hul := hide hul; clear hul
        clear Hx
        obtain ⟨j, hj, rfl, hG, hV, hgr⟩ := hrel
        by_cases hlt : j < 8
        · have cg := (hG.cell j).trans (mix_at _ u rest j rfl (unhide Hul) hlt)
          have cv := (hV.cell j).trans (st8_at u j (by rw [unhide Hul]; exact hlt))
          have fg := hG.frozen j
          generalize hx : [v0, v1, v2, v3, v4, v5, v6, v7].getD j 0 = x at cg
          generalize hy : u.getD j 0 = y at cv
          have Hy := hide (And.intro hx (And.intro hy (And.intro hG (And.intro hV hgr)))); clear hx hy hG hV hgr
          go_wp2_with fail
          go_still_tail 11, (by kernel_rfl)
          change wpList _ _ _ _ _ (World.drew _)
          go_wp2
          go_roundw
          case rel =>
            obtain ⟨hx, hy, hG, hV, hgr⟩ := unhide Hy
            have hs := mix_set [v0, v1, v2, v3, v4, v5, v6, v7] u rest j rfl (unhide Hul) hlt
            rw [hx, hy] at hs
            have h := hG.set_ j (.int .u32 ((x + y) % 4294967296))
            rw [hs] at h
            exact ⟨j + 1, by omega, by go_num, h.drew, (hV.far (p := ⟨g, j, none⟩) (by simp; omega) _).drew, only_drew (only_setCell (p := ⟨g, j, none⟩) hgr (.inl rfl) _)⟩
          case measure => simp [intOf]; omega
        · have hj8 : 8 ≤ j := by omega
          have Hy := hide (And.intro hG hgr); clear hG hgr hV
          go_wp2
          go_end0
          obtain ⟨hG, hgr⟩ := unhide Hy
          obtain ⟨hr, hU, hul⟩ := unhide Hr
          refine ⟨rfl, hgr, ?_⟩
          obtain rfl : j = 8 := by omega
          rw [mix_all _ _ rfl (unhide Hul), ← hr] at hG
          have : k = 64 := by omega
          subst this
          exact hG
end Go.Proofs.YtphoflcilpopgaaGreatDoor

set_option linter.unusedVariables false
set_option linter.unusedSimpArgs false
namespace Go.Proofs.YtphoflcilpopgaaGreatDoor
open Go.RowKit
/-- The cells of block g from its head on are these bytes. -/
def BytesAt (w : World) (g : Nat) (bs : List UInt8) : Prop := ∀ j (hj : j < bs.length), w.cell? ⟨g, j, none⟩ = some (.int .u8 (bs[j].toNat : Int))
theorem BytesAt.keep {w w' : World} {g : Nat} {bs : List UInt8} (h : BytesAt w g bs) (hk : ∀ o, w'.cell? ⟨g, o, none⟩ = w.cell? ⟨g, o, none⟩) : BytesAt w' g bs :=
  fun j hj => (hk j).trans (h j hj)
theorem BytesAt.below {B : Nat} {w w' : World} {g : Nat} {bs : List UInt8} (h : BytesAt w g bs) (hb : Below B w w') (hg : g < B) : BytesAt w' g bs :=
  h.keep fun o => hb.cell (p := ⟨g, o, none⟩) hg
theorem four_of {l : List UInt8} {k : Nat} (h : k + 3 < l.length) : (l.drop k).take 4 = [l[k], l[k + 1], l[k + 2], l[k + 3]] := by
  have h0 := List.drop_eq_getElem_cons (l := l) (i := k) (by omega)
  have h1 := List.drop_eq_getElem_cons (l := l) (i := k + 1) (by omega)
  have h2 := List.drop_eq_getElem_cons (l := l) (i := k + 2) (by omega)
  have h3 := List.drop_eq_getElem_cons (l := l) (i := k + 3) (by omega)
  rw [h0, h1, h2, h3]
  simp only [List.take_succ_cons, List.take_zero]
set_option maxRecDepth 100000 in
set_option maxHeartbeats 1000000 in
theorem schedule_any (g : Nat) (bs : List UInt8) (c : Nat) (p : Int) (w : World) (hn : bs.length ≤ maxLen) (hp0 : 0 ≤ p) (hp : p + 64 ≤ bs.length) (hg : g < w.heap.size) (hB0 : BytesAt w g bs) :
    Calls Tryz.prog 83 #[.slice (some ⟨g, 0, none⟩) bs.length c, .int .i64 p] w fun e w' => e = .returned (.agg (arr64 (sched ((bs.drop p.toNat).take 64)))) ∧ Below w.heap.size w w' := by
  obtain ⟨q, rfl⟩ := Int.eq_ofNat_of_zero_le hp0
  rw [Int.toNat_natCast]
  have hn' : bs.length ≤ 9223372036854775807 := by simpa [maxLen] using hn
  obtain ⟨m, Hm⟩ : ∃ m, Hid (m = bs.length) := ⟨_, rfl⟩
  have hl : ((bs.drop q).take 64).length = 64 := by simp; omega
  have hm1 : bs.length ≤ m := by rw [Hm.out]; omega
  have hm2 : m ≤ bs.length := by rw [Hm.out]; omega
  rw [← Hm.out]
  obtain ⟨b, Hb64⟩ : ∃ b, Hid (b = (bs.drop q).take 64) := ⟨_, rfl⟩
  rw [← Hb64.out] at hl ⊢
  have Hl := Lib.hid hl; clear hl
  have HB0 := hide hB0; clear hB0
  go_enter Tryz.func83, Tryz.ntmps83
  go_wp2
  go_loopw [6] (fun i wr => ∃ k : Nat, k ≤ 16 ∧ i = .int .i64 k ∧ Blk wr (w.heap.size + 1) 128 (arr64 (firstWords b k)) ∧ Blk wr w.heap.size 128 (arr64 []) ∧ Below w.heap.size w wr) (fun i _ => 16 - (intOf i).toNat)
  case atStart => exact ⟨0, by omega, rfl, heap_alloc2_new w _ _, heap_alloc2_old w _ _, ((Below.refl _ _).alloc (Nat.le_refl _) _).alloc (by simp) _⟩
  case round =>
    obtain ⟨k, hk, rfl, hB, hA, hb⟩ := hrel
    by_cases hlt : k < 16
    · have c1 := (hB.cell k).trans (arr64_zero _ k (by rw [firstWords_length]; omega) (by omega))
      have f1 := hB.frozen k
      have Hbb := hide ((unhide HB0).below hb hg)
      have Hh := hide (And.intro hB (And.intro hA hb)); clear hB hA hb
      have e1 : ((q : Int) + 4 * k).toNat = q + 4 * k := by omega
      have E1 := Lib.hid e1; clear e1
      go_wp2_with fail
      have hw := word_any g m c ((q : Int) + 4 * k) (bs[q + 4 * k]'(by omega)) (bs[q + 4 * k + 1]'(by omega)) (bs[q + 4 * k + 2]'(by omega)) (bs[q + 4 * k + 3]'(by omega)) wr (by simp only [maxLen]; omega) (by omega) (by omega)
        (by rw [E1.out]; exact unhide Hbb _ _) (by rw [E1.out]; exact unhide Hbb _ _) (by rw [E1.out]; exact unhide Hbb _ _) (by rw [E1.out]; exact unhide Hbb _ _)
      refine hw.mono ?_
      clear hw
      rintro e w1 ⟨rfl, nd, rfl⟩
      go_wp2
      go_roundw
      case rel =>
        obtain ⟨hB, hA, hb⟩ := unhide Hh
        have hfw : firstWords b (k + 1) = firstWords b k ++ [beN [bs[q + 4 * k]'(by omega), bs[q + 4 * k + 1]'(by omega), bs[q + 4 * k + 2]'(by omega), bs[q + 4 * k + 3]'(by omega)]] := by
          have h4 := four_of (l := b) (k := 4 * k) (by have := Hl.out; omega)
          simp only [firstWords, h4]
          have ebj : ∀ j (hj : j < b.length) (hj' : q + j < bs.length), b[j] = bs[q + j] := by
            intro j hj hj'
            have hb' := Hb64.out
            subst hb'
            simp
          rw [ebj (4 * k) (by have := Hl.out; omega) (by omega), ebj (4 * k + 1) (by have := Hl.out; omega) (by omega), ebj (4 * k + 2) (by have := Hl.out; omega) (by omega), ebj (4 * k + 3) (by have := Hl.out; omega) (by omega)]
          rfl
        refine ⟨k + 1, by omega, by go_num, ?_, ?_, ?_⟩
        · have h := ((hB.drewN nd).set_ k (.int .u32 (beN [bs[q + 4 * k]'(by omega), bs[q + 4 * k + 1]'(by omega), bs[q + 4 * k + 2]'(by omega), bs[q + 4 * k + 3]'(by omega)])))
          have e := arr64_set (firstWords b k) (beN [bs[q + 4 * k]'(by omega), bs[q + 4 * k + 1]'(by omega), bs[q + 4 * k + 2]'(by omega), bs[q + 4 * k + 3]'(by omega)]) (by rw [firstWords_length]; omega)
          rw [firstWords_length] at e
          rw [e] at h
          rw [hfw]
          exact h
        · exact (hA.drewN nd).far (p := ⟨w.heap.size + 1, k, none⟩) (by simp) _
        · exact (below_drewN hb nd).setCell (by simp) _
      case measure => simp [intOf]; omega
    · have hk16 : 16 ≤ k := by omega
      go_wp2_with fail
      go_loopw [7] (fun i wr => ∃ (k : Nat) (l : List Int), l.length = k ∧ 16 ≤ k ∧ k ≤ 64 ∧ U32 l ∧ moreWords (64 - k) l = sched b ∧ i = .int .i64 k ∧ Blk wr (w.heap.size + 1) 128 (arr64 l) ∧ Blk wr w.heap.size 128 (arr64 []) ∧ Below w.heap.size w wr) (fun i _ => 64 - (intOf i).toNat)
      case atStart =>
        obtain rfl : k = 16 := by omega
        exact ⟨16, firstWords b 16, firstWords_length _ _, by omega, by omega, firstWords_U32 _ _, rfl, rfl, hB, hA, hb⟩
      case round =>
        clear hA hB hb
        obtain ⟨k, l, hl, hk1, hk2, hu, hm, rfl, hB, hA, hb⟩ := hrel
        by_cases hlt : k < 64
        · have a15 := (hB.cell (k - 15)).trans (arr64_get l _ (by omega))
          have a2 := (hB.cell (k - 2)).trans (arr64_get l _ (by omega))
          have a7 := (hB.cell (k - 7)).trans (arr64_get l _ (by omega))
          have a16 := (hB.cell (k - 16)).trans (arr64_get l _ (by omega))
          have at_ := (hB.cell k).trans (arr64_zero l k (by omega) (by omega))
          have ft := hB.frozen k
          obtain ⟨x0, x1⟩ := hu.at_ (k - 15)
          obtain ⟨y0, y1⟩ := hu.at_ (k - 2)
          obtain ⟨z0, z1⟩ := hu.at_ (k - 7)
          obtain ⟨t0, t1⟩ := hu.at_ (k - 16)
          generalize hx : l.getD (k - 15) 0 = x at *
          generalize hy : l.getD (k - 2) 0 = y at *
          generalize hz : l.getD (k - 7) 0 = z at *
          generalize ht : l.getD (k - 16) 0 = t at *
          have Hv := hide (And.intro hx (And.intro hy (And.intro hz ht))); clear hx hy hz ht
          have Hh := hide (And.intro hB (And.intro hA (And.intro hb (And.intro hu (And.intro hm hl))))); clear hB hA hb hu hm hl
          have s15 : IntKind.i64.wrap ((k : Int) - 15) = k - 15 := IntWalk.i64_in _ (by omega)
          have s2 : IntKind.i64.wrap ((k : Int) - 2) = k - 2 := IntWalk.i64_in _ (by omega)
          have n15 : ((k : Int) - 15).toNat = k - 15 := by omega
          have n2 : ((k : Int) - 2).toNat = k - 2 := by omega
          have g15 : 0 ≤ (k : Int) - 15 := by omega
          have g2 : 0 ≤ (k : Int) - 2 := by omega
          have r15 : 15 ≤ (k : Int) := by omega
          have r2 : 2 ≤ (k : Int) := by omega
          have u15 : (k : Int) - 15 < 64 := by omega
          have u2 : (k : Int) - 2 < 64 := by omega
          go_wp2_with fail
          refine (rotr_any x 7 _ x0 x1 (by omega) (by omega)).mono ?_
          rintro e w1 ⟨rfl, rfl⟩
          go_wp2_with fail
          refine (rotr_any x 18 _ x0 x1 (by omega) (by omega)).mono ?_
          rintro e w1 ⟨rfl, rfl⟩
          go_wp2_with fail
          refine (rotr_any y 17 _ y0 y1 (by omega) (by omega)).mono ?_
          rintro e w1 ⟨rfl, rfl⟩
          go_wp2_with fail
          refine (rotr_any y 19 _ y0 y1 (by omega) (by omega)).mono ?_
          rintro e w1 ⟨rfl, rfl⟩
          go_wp2_with fail
          clear s15 s2 n15 n2 g15 g2 u15 u2 a15 a2 r15 r2
          have s7 : IntKind.i64.wrap ((k : Int) - 7) = k - 7 := IntWalk.i64_in _ (by omega)
          have s16 : IntKind.i64.wrap ((k : Int) - 16) = k - 16 := IntWalk.i64_in _ (by omega)
          have n7 : ((k : Int) - 7).toNat = k - 7 := by omega
          have n16 : ((k : Int) - 16).toNat = k - 16 := by omega
          have g7 : 0 ≤ (k : Int) - 7 := by omega
          have g16 : 0 ≤ (k : Int) - 16 := by omega
          have r7 : 7 ≤ (k : Int) := by omega
          have r16 : 16 ≤ (k : Int) := by omega
          have u7 : (k : Int) - 7 < 64 := by omega
          have u16 : (k : Int) - 16 < 64 := by omega
          go_still_tail 15, (by kernel_rfl)
          change wpList _ _ _ _ _ wr.drew
          go_wp2
          go_roundw
          case rel =>
            obtain ⟨hB, hA, hb, hu, hm, hl⟩ := unhide Hh
            obtain ⟨hx, hy, hz, ht⟩ := unhide Hv
            have hn : nextWord l = (bits .xor .u32 (bits .xor .u32 (rotr y 17) (rotr y 19)) (y / 1024) + z + bits .xor .u32 (bits .xor .u32 (rotr x 7) (rotr x 18)) (x / 8) + t) % 4294967296 := by
              simp only [nextWord, hl, hx, hy, hz, ht]
            refine ⟨k + 1, l ++ [nextWord l], by simp [hl], by omega, by omega, hu.snoc (by rw [hn]; omega) (by rw [hn]; omega), ?_, by go_num, ?_, ?_, ?_⟩
            · rw [← hm, show 64 - k = (64 - (k + 1)) + 1 from by omega]; rfl
            · have h := (hB.set_ k (.int .u32 (nextWord l))).drew
              have e := arr64_set l (nextWord l) (by omega)
              rw [hl] at e
              rw [e, hn] at h
              rw [hn]
              exact h
            · exact (hA.far (p := ⟨w.heap.size + 1, k, none⟩) (by simp) _).drew
            · exact (hb.setCell (by simp) _).drew
          case measure => simp [intOf]; omega
        · have hk64 : 64 ≤ k := by omega
          have El : Hid (l = sched b) := by
            have h0 : 64 - k = 0 := by omega
            rw [h0] at hm
            exact hm
          have szB := arr64_size l (by omega)
          have szA := arr64_size [] (by simp)
          have one := arr64_one l
          clear hl hm
          obtain ⟨C, HC⟩ : ∃ C, Hid (arr64 l = C) := ⟨_, rfl⟩
          rw [HC.out] at hB szB one
          obtain ⟨D, HD⟩ : ∃ D, Hid (arr64 [] = D) := ⟨_, rfl⟩
          rw [HD.out] at hA szA
          have HB := hide hB; have HA := hide hA; have Hb := hide hb; clear hA hB hb
          have SB := hide szB; have SA := hide szA; clear szA szB
          have ci : (Tryz.prog.info? 128).map (·.size) = some 64 := by kernel_rfl
          have Ci := hide ci; clear ci
          go_wp2_with (first | (refine wpList_load_row rfl 128 (.tmp 5) rfl (w.heap.size + 1) rfl 128 C (0, 0) _ (unhide HB) Tryz.underlying128 rfl ((unhide Ci).trans (by rw [unhide SB])) ?_) | (refine wpList_store_row rfl 128 (.tmp 4) (.tmp 67) rfl w.heap.size C rfl rfl 128 D (unhide HA) ((unhide Ci).trans (by rw [unhide SB])) ((unhide SA).trans (unhide SB).symm) one ?_))
          refine bodyPost_ret (results_cell_row rfl _ _ w.heap.size 128 C (0, 0) _ rfl (setRow_heap wr _ _ _ _ _ (unhide HA)) Tryz.underlying128 rfl ((unhide Ci).trans (by rw [unhide SB]))) rfl ?_
          exact ⟨by rw [← El.out, HC.out], (unhide Hb).setRow (Nat.le_refl _) _⟩
end Go.Proofs.YtphoflcilpopgaaGreatDoor

set_option linter.unusedVariables false
set_option linter.unusedSimpArgs false
namespace Go.Proofs.YtphoflcilpopgaaGreatDoor
open Go.RowKit
/-- The rounds' constants of the reference are there. -/
def TabOkR (w : World) : Prop := ∀ i, i < 64 → w.cell? ⟨1, i, none⟩ = some (.int .u32 (shaK.getD i 0))
theorem TabOkR.lt {w : World} (h : TabOkR w) : 1 < w.heap.size := World.block_lt_of_cell? w _ (h 0 (by omega))
theorem TabOkR.below {B : Nat} {w w' : World} (h : TabOkR w) (hb : Below B w w') (hB : 1 < B) : TabOkR w' :=
  fun i hi => (hb.cell (p := ⟨1, i, none⟩) hB).trans (h i hi)
theorem st8_one (u : List Int) : ((st8 u).toArray).all (·.oneCell') = true := by
  rw [Array.all_eq_true]
  intro i hi
  simp [st8, Value.oneCell']
set_option maxRecDepth 100000 in
set_option maxHeartbeats 1000000 in
theorem block_any (v : List Int) (g : Nat) (bs : List UInt8) (c : Nat) (p : Int) (w : World) (hv : v.length = 8) (hu : U32 v) (htab : TabOkR w) (hn : bs.length ≤ maxLen) (hp0 : 0 ≤ p) (hp : p + 64 ≤ bs.length) (hg : g < w.heap.size) (hB0 : BytesAt w g bs) :
    Calls Tryz.prog 65 #[.agg (st8 v).toArray, .slice (some ⟨g, 0, none⟩) bs.length c, .int .i64 p] w fun e w' => e = .returned (.agg (st8 (comp v ((bs.drop p.toNat).take 64))).toArray) ∧ Below w.heap.size w w' := by
  obtain ⟨v0, v1, v2, v3, v4, v5, v6, v7, rfl⟩ := list8 hv
  obtain ⟨C, HC⟩ : ∃ C, Hid (arr64 (sched ((bs.drop p.toNat).take 64)) = C) := ⟨_, rfl⟩
  have sizeC : C.size = 64 := by rw [← HC.out]; exact arr64_size _ (Nat.le_of_eq (sched_length _))
  have oneC : C.all (·.oneCell') = true := by rw [← HC.out]; exact arr64_one _
  have SizeC := Lib.hid sizeC; clear sizeC
  have ci : (Tryz.prog.info? 128).map (·.size) = some 64 := by kernel_rfl
  have Ci := hide ci; clear ci
  have HB0 := hide hB0; clear hB0
  have Htab := hide htab; have Hu := hide hu; clear htab hu
  have hst : (st8 [v0, v1, v2, v3, v4, v5, v6, v7]).toArray = #[.int .u32 v0, .int .u32 v1, .int .u32 v2, .int .u32 v3, .int .u32 v4, .int .u32 v5, .int .u32 v6, .int .u32 v7] := rfl
  rw [hst]; clear hst
  go_enter Tryz.func65, Tryz.ntmps65
  go_wp2_with fail
  have hW0 : Blk ((w.alloc (.cells #[.int .u32 v0, .int .u32 v1, .int .u32 v2, .int .u32 v3, .int .u32 v4, .int .u32 v5, .int .u32 v6, .int .u32 v7] 108)).alloc (.cells #[.int .u32 0, .int .u32 0, .int .u32 0, .int .u32 0, .int .u32 0, .int .u32 0, .int .u32 0, .int .u32 0] 108)) w.heap.size 108 #[.int .u32 v0, .int .u32 v1, .int .u32 v2, .int .u32 v3, .int .u32 v4, .int .u32 v5, .int .u32 v6, .int .u32 v7] ∧
      Blk ((w.alloc (.cells #[.int .u32 v0, .int .u32 v1, .int .u32 v2, .int .u32 v3, .int .u32 v4, .int .u32 v5, .int .u32 v6, .int .u32 v7] 108)).alloc (.cells #[.int .u32 0, .int .u32 0, .int .u32 0, .int .u32 0, .int .u32 0, .int .u32 0, .int .u32 0, .int .u32 0] 108)) (w.heap.size + 1) 108 #[.int .u32 0, .int .u32 0, .int .u32 0, .int .u32 0, .int .u32 0, .int .u32 0, .int .u32 0, .int .u32 0] ∧
      Below w.heap.size w ((w.alloc (.cells #[.int .u32 v0, .int .u32 v1, .int .u32 v2, .int .u32 v3, .int .u32 v4, .int .u32 v5, .int .u32 v6, .int .u32 v7] 108)).alloc (.cells #[.int .u32 0, .int .u32 0, .int .u32 0, .int .u32 0, .int .u32 0, .int .u32 0, .int .u32 0, .int .u32 0] 108)) ∧
      ((w.alloc (.cells #[.int .u32 v0, .int .u32 v1, .int .u32 v2, .int .u32 v3, .int .u32 v4, .int .u32 v5, .int .u32 v6, .int .u32 v7] 108)).alloc (.cells #[.int .u32 0, .int .u32 0, .int .u32 0, .int .u32 0, .int .u32 0, .int .u32 0, .int .u32 0, .int .u32 0] 108)).heap.size = w.heap.size + 2 :=
    ⟨heap_alloc2_old w _ _, heap_alloc2_new w _ _, ((Below.refl _ _).alloc (Nat.le_refl _) _).alloc (by simp) _, by simp⟩
  generalize (w.alloc _).alloc _ = W0 at hW0 ⊢
  obtain ⟨hA0, hA1, hb0, hz0⟩ := hW0
  have hw := schedule_any g bs c p W0 hn hp0 hp (by omega) ((unhide HB0).below hb0 hg)
  rw [HC.out] at hw
  refine hw.mono ?_
  clear hw
  rintro e w1 ⟨rfl, hb1⟩
  have hA0' := hA0.below hb1 (by omega)
  have hA1' := hA1.below hb1 (by omega)
  have d0 := hA0'.cell 0
  have d1 := hA0'.cell 1
  have d2 := hA0'.cell 2
  have d3 := hA0'.cell 3
  have d4 := hA0'.cell 4
  have d5 := hA0'.cell 5
  have d6 := hA0'.cell 6
  have d7 := hA0'.cell 7
  simp at d0 d1 d2 d3 d4 d5 d6 d7
  have glt1 : w.heap.size < w1.heap.size := by have := hb1.size; omega
  have glt1' : w.heap.size + 1 < w1.heap.size := by have := hb1.size; omega
  have Hb01 := hide (And.intro (hb0.trans (hb1.mono (by omega))) (And.intro hA0' hA1')); clear hb0 hb1 hA0 hA1 hA0' hA1' hz0
  go_wp2_with (first | (refine wpList_store_row rfl 128 (.tmp 7) (.tmp 17) rfl w1.heap.size C rfl rfl 128 _ (heap_alloc_new w1 _) ((unhide Ci).trans (by rw [SizeC.out])) (by rw [SizeC.out]; rfl) oneC ?_; have hX := setRow_new w1 (List.replicate 64 (Value.int .u32 0)).toArray C 128; simp only [List.replicate_succ, List.replicate_zero] at hX; generalize World.setRow _ w1.heap.size C = W2 at hX ⊢; obtain ⟨hC2, hb2, hz2⟩ := hX; have bc := bcell hb2; replace d0 := (bc.1 w.heap.size 0 glt1).trans d0; replace d1 := (bc.1 w.heap.size 1 glt1).trans d1; replace d2 := (bc.1 w.heap.size 2 glt1).trans d2; replace d3 := (bc.1 w.heap.size 3 glt1).trans d3; replace d4 := (bc.1 w.heap.size 4 glt1).trans d4; replace d5 := (bc.1 w.heap.size 5 glt1).trans d5; replace d6 := (bc.1 w.heap.size 6 glt1).trans d6; replace d7 := (bc.1 w.heap.size 7 glt1).trans d7; have HC2 := hide hC2; have Hb2 := hide hb2; have Hz2 := hide hz2; clear bc hC2 hb2 hz2))
  clear d0 d1 d2 d3 d4 d5 d6 d7
  go_loopw [9] (fun i wr => ∃ (k : Nat) (u : List Int), k ≤ 64 ∧ i = .int .i64 k ∧ u.length = 8 ∧ rds (sched ((bs.drop p.toNat).take 64)) [v0, v1, v2, v3, v4, v5, v6, v7] k = u ∧ U32 u ∧ Blk wr W2.heap.size 108 (st8 u).toArray ∧ Below W2.heap.size W2 wr) (fun i _ => 64 - (intOf i).toNat)
  case atStart => exact ⟨0, [v0, v1, v2, v3, v4, v5, v6, v7], by omega, rfl, rfl, rfl, unhide Hu, heap_alloc_new W2 _, (Below.refl _ _).alloc (Nat.le_refl _) _⟩
  case round =>
    obtain ⟨k, u, hk, rfl, hul, hr, hU, hB, hb⟩ := hrel
    by_cases hlt : k < 64
    · obtain ⟨a0, a1, a2, a3, a4, a5, a6, a7, rfl⟩ := list8 hul
      clear hul
      have d0 := hB.cell 0
      have d1 := hB.cell 1
      have d2 := hB.cell 2
      have d3 := hB.cell 3
      have d4 := hB.cell 4
      have d5 := hB.cell 5
      have d6 := hB.cell 6
      have d7 := hB.cell 7
      simp [st8] at d0 d1 d2 d3 d4 d5 d6 d7
      have tk := ((unhide Htab).below (unhide Hb01).1 (unhide Htab).lt).below ((unhide Hb2).trans (hb.mono (by rw [unhide Hz2]; omega))) (Nat.lt_of_lt_of_le (unhide Htab).lt (unhide Hb01).1.size) k hlt
      have wk := (hb.cell (p := ⟨w1.heap.size, k, none⟩) (by rw [unhide Hz2]; simp)).trans ((unhide HC2).cell k)
      have hck : C[k]? = some (.int .u32 ((sched ((bs.drop p.toNat).take 64)).getD k 0)) := by rw [← HC.out]; exact arr64_get _ _ (by rw [sched_length]; exact hlt)
      rw [hck] at wk; clear hck
      obtain ⟨x0, x0'⟩ := hU.at_ 0
      obtain ⟨x4, x4'⟩ := hU.at_ 4
      simp at x0 x0' x4 x4'
      generalize hwk : (sched ((bs.drop p.toNat).take 64)).getD k 0 = wv at *
      generalize htk : shaK.getD k 0 = kv at *
      have Hr := hide (And.intro hr (And.intro hwk (And.intro htk (And.intro hU (And.intro hB hb))))); clear hr hwk htk hU hB hb
      go_wp2_with fail
      go_quiet ((go_at_call 84; exact quiet_left (rotr_int _ _ _ (by assumption) (by assumption) (by omega) (by omega))))
      go_wp2_with fail
      go_quiet ((go_at_call 84; exact quiet_add_left (rotr_int _ _ _ (by assumption) (by assumption) (by omega) (by omega))))
      go_wp2_with (refine wpList_store_row rfl 108 (.tmp 8) (.tmp 98) rfl W2.heap.size (st8 (rnd [a0, a1, a2, a3, a4, a5, a6, a7] kv wv)).toArray (by kernel_rfl) (by kernel_rfl) 108 (st8 [a0, a1, a2, a3, a4, a5, a6, a7]).toArray (unhide Hr).2.2.2.2.1 (by kernel_rfl) (by kernel_rfl) (by kernel_rfl) ?_)
      go_roundw
      case rel =>
        obtain ⟨hr, hwk, htk, hU, hB, hb⟩ := unhide Hr
        exact ⟨k + 1, rnd [a0, a1, a2, a3, a4, a5, a6, a7] kv wv, by omega, by go_num, rfl, by rw [rds, hr, hwk, htk], rnd_U32 hU _ _, setRow_heap _ _ _ _ _ _ hB, (below_drewN hb _).setRow (Nat.le_refl _) _⟩
      case measure => simp [intOf]; omega
    · have hk64 : 64 ≤ k := by omega
      have hz : w1.heap.size < W2.heap.size := by have h2 := unhide Hz2; omega
      have hG2 : Blk wr w.heap.size 108 (st8 [v0, v1, v2, v3, v4, v5, v6, v7]).toArray :=
        ((unhide Hb01).2.1.below (unhide Hb2) glt1).below hb (by omega)
      have hR2 : Blk wr (w.heap.size + 1) 108 #[.int .u32 0, .int .u32 0, .int .u32 0, .int .u32 0, .int .u32 0, .int .u32 0, .int .u32 0, .int .u32 0] :=
        ((unhide Hb01).2.2.below (unhide Hb2) glt1').below hb (by omega)
      have hgr : Below w.heap.size w wr := ((unhide Hb01).1.trans ((unhide Hb2).mono (by omega))).trans (hb.mono (by omega))
      have Hr := hide (And.intro hr (And.intro hU hul)); clear hr hU
      have Hx := hide (And.intro hB (And.intro hG2 (And.intro hgr (And.intro hR2 hul)))); clear hB hG2 hgr hR2 hul hb
      go_wp2_with fail
      go_loopw [14] (fun i wz => ∃ j : Nat, j ≤ 8 ∧ i = .int .i64 j ∧ Blk wz w.heap.size 108 (st8 (mix [v0, v1, v2, v3, v4, v5, v6, v7] u j) ++ []).toArray ∧ Blk wz W2.heap.size 108 (st8 u).toArray ∧ Below w.heap.size w wz ∧ Blk wz (w.heap.size + 1) 108 #[.int .u32 0, .int .u32 0, .int .u32 0, .int .u32 0, .int .u32 0, .int .u32 0, .int .u32 0, .int .u32 0]) (fun i _ => 8 - (intOf i).toNat)
      case atStart => exact ⟨0, by omega, rfl, (unhide Hx).2.1, (unhide Hx).1, (unhide Hx).2.2.1, (unhide Hx).2.2.2.1⟩
      case round =>
        have hul := (unhide Hx).2.2.2.2
        have Hul := hide hul; clear hul
        clear Hx
        obtain ⟨j, hj, rfl, hG, hV, hgr, hR2⟩ := hrel
        by_cases hlt : j < 8
        · have cg := (hG.cell j).trans (mix_at _ u [] j rfl (unhide Hul) hlt)
          have cv := (hV.cell j).trans (st8_at u j (by rw [unhide Hul]; exact hlt))
          have fg := hG.frozen j
          generalize hx : [v0, v1, v2, v3, v4, v5, v6, v7].getD j 0 = x at cg
          generalize hy : u.getD j 0 = y at cv
          have Hy := hide (And.intro hx (And.intro hy (And.intro hG (And.intro hV (And.intro hgr hR2))))); clear hx hy hG hV hgr hR2
          go_wp2_with fail
          go_still_tail 9, (by kernel_rfl)
          change wpList _ _ _ _ _ (World.drew _)
          go_wp2
          go_roundw
          case rel =>
            obtain ⟨hx, hy, hG, hV, hgr, hR2⟩ := unhide Hy
            have hs := mix_set [v0, v1, v2, v3, v4, v5, v6, v7] u [] j rfl (unhide Hul) hlt
            rw [hx, hy] at hs
            have h := hG.set_ j (.int .u32 ((x + y) % 4294967296))
            rw [hs] at h
            exact ⟨j + 1, by omega, by go_num, h.drew, (hV.far (p := ⟨w.heap.size, j, none⟩) (by simp; omega) _).drew, (hgr.setCell (Nat.le_refl _) _).drew, (hR2.far (p := ⟨w.heap.size, j, none⟩) (by simp) _).drew⟩
          case measure => simp [intOf]; omega
        · obtain rfl : j = 8 := by omega
          have hG8 : Blk wr w.heap.size 108 (st8 (comp [v0, v1, v2, v3, v4, v5, v6, v7] ((bs.drop p.toNat).take 64))).toArray := by
            obtain ⟨hr, hU, hul⟩ := unhide Hr
            obtain rfl : k = 64 := by omega
            rw [mix_all _ _ rfl (unhide Hul), ← hr, List.append_nil] at hG
            exact hG
          obtain ⟨D, HD⟩ : ∃ D, Hid (D = (st8 (comp [v0, v1, v2, v3, v4, v5, v6, v7] ((bs.drop p.toNat).take 64))).toArray) := ⟨_, rfl⟩
          have sizeD : D.size = 8 := by rw [HD.out]; simp [st8, comp, rds_length]
          have oneD : D.all (·.oneCell') = true := by rw [HD.out]; exact st8_one _
          rw [← HD.out] at hG8
          have SD := hide sizeD; clear sizeD
          have Hy := hide (And.intro hG8 (And.intro hgr hR2)); clear hG hG8 hgr hR2 hV
          have ci8 : (Tryz.prog.info? 108).map (·.size) = some 8 := by kernel_rfl
          have Ci8 := hide ci8; clear ci8
          go_wp2_with (first | (refine wpList_load_row rfl 108 (.tmp 3) rfl w.heap.size rfl 108 D (0, 0) _ (unhide Hy).1 Tryz.underlying108 rfl ((unhide Ci8).trans (by rw [unhide SD])) ?_) | (refine wpList_store_row rfl 108 (.tmp 6) (.tmp 112) rfl (w.heap.size + 1) D rfl rfl 108 _ (unhide Hy).2.2 ((unhide Ci8).trans (by rw [unhide SD])) (by rw [unhide SD]; rfl) oneD ?_))
          refine bodyPost_ret (results_cell_row rfl _ _ (w.heap.size + 1) 108 D (0, 0) _ rfl (setRow_heap wr _ _ _ _ _ (unhide Hy).2.2) Tryz.underlying108 rfl ((unhide Ci8).trans (by rw [unhide SD]))) rfl ?_
          exact ⟨by rw [HD.out], (unhide Hy).2.1.setRow (by omega) _⟩
end Go.Proofs.YtphoflcilpopgaaGreatDoor

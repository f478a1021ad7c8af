/-
  CONTRACTS of package text and of the document's answer for it: a number in decimal digits.
-/
import Derived.Test.YtphjpdnheaeghaaDoorRows
import Derived.Test.YtphjpdnheaeghaaDoorWd
import Derived.Test.YtphjpdnheaeghaaDoorBytes
import Derived.StillTailTactics
import Derived.Deep.RegionHeld3
set_option linter.unusedVariables false
set_option linter.unusedSimpArgs false
namespace Go.Proofs.YtphjpdnheaeghaaDoor
open Go.RowKit Go.Lib
/-- Decimal digits. -/
def digL (n : Nat) : List UInt8 := if n < 10 then [(48 + n).toUInt8] else digL (n / 10) ++ [(48 + n % 10).toUInt8]
def decL (z : Int) : List UInt8 := if 0 ≤ z then digL z.toNat else 45 :: digL (-z).toNat
def decS (z : Int) : ByteArray := ⟨(decL z).toArray⟩
theorem digL_lt {n : Nat} (h : n < 10) : digL n = [(48 + n).toUInt8] := by rw [digL, if_pos h]
theorem digL_ge {n : Nat} (h : 10 ≤ n) : digL n = digL (n / 10) ++ [(48 + n % 10).toUInt8] := by rw [digL, if_neg (by omega)]
theorem digL_length : ∀ (k n : Nat), n < 10 ^ k → 0 < k → (digL n).length ≤ k
  | 0, n, h, h0 => by omega
  | 1, n, h, h0 => by rw [digL_lt (by simpa using h)]; simp
  | k + 2, n, h, h0 => by
    by_cases h1 : n < 10
    · rw [digL_lt h1]; simp
    · rw [digL_ge (by omega), List.length_append]
      have := digL_length (k + 1) (n / 10) (by rw [Nat.pow_succ] at h; omega) (by omega)
      simp; omega
/-- Digits on an array of zeros. -/
theorem set_dig (at_ : Nat) (l : List UInt8) (c : UInt8) : (byteCells (List.replicate (at_ + 1) 0 ++ l)).toArray.setIfInBounds at_ (.int .u8 (c.toNat : Int)) = (byteCells (List.replicate at_ 0 ++ c :: l)).toArray := by
  apply Array.ext'
  simp only [List.setIfInBounds_toArray]
  rw [List.replicate_succ']
  simp only [byteCells, List.map_append, List.map_cons, List.map_nil, List.append_assoc]
  rw [List.set_append_right _ _ (by simp)]
  simp
theorem conv_row' {w : World} {g off cap : Nat} {bs : List UInt8} (h : ∀ j (hj : j < bs.length), w.cell? ⟨g, off + j, none⟩ = some (.int .u8 (bs[j].toNat : Int))) :
    (convert 38 9 (.slice (some ⟨g, off, none⟩) bs.length cap)).run Tryd.prog w = .ok (.string ⟨bs.toArray⟩) w :=
  Go.run_convert_bytes_back w 38 9 5 ⟨g, off, none⟩ cap bs Tryd.underlying38 Tryd.underlying5 Tryd.underlying9 (fun j hj => by
    have hadd : (⟨g, off, none⟩ : Addr).add j = ⟨g, off + j, none⟩ := by unfold Addr.add; split <;> simp_all
    rw [hadd]
    exact h j hj)
theorem u8_of (x : Nat) (h : x < 256) : Value.int .u8 ((x.toUInt8).toNat : Int) = .int .u8 (x : Int) := by
  have e : (x.toUInt8).toNat = x % 256 := UInt8.toNat_ofNat' ..
  rw [e, Nat.mod_eq_of_lt h]
theorem run_slice20 (g : Nat) (r : Nat) (h : r < 20) (w : World) :
    (Instr.sliceAt 64 (.pointer (some ⟨g, 0, none⟩)) (some (.int .i64 (r : Int))) none none).run Tryd.prog w = .ok (.slice (some ⟨g, r, none⟩) (20 - r) (20 - r)) w := by
  have ht : Tryd.prog.underlying 64 = some (.array (Tryd.prog.arrayLen 64) (Tryd.prog.elem 64)) := by kernel_rfl
  have hl : Tryd.prog.arrayLen 64 = 20 := by kernel_rfl
  have hs : (sizeOf (Tryd.prog.elem 64)).run Tryd.prog w = .ok 1 w := by kernel_rfl
  rw [run_sliceAt_array_l w _ _ ht .i64 (r : Int) (by omega) (by rw [hl]; omega), hs, hl]
  simp only [Result.andThen, slicedAt, Addr.add]
  rw [if_neg (by omega)]
  simp
  omega
theorem conv20 {w : World} {g k : Nat} {l : List UInt8} (hl : k + l.length = 20) (hB : Blk w g 64 (byteCells (List.replicate k 0 ++ l)).toArray) :
    (convert 38 9 (.slice (some ⟨g, k, none⟩) (20 - k) (20 - k))).run Tryd.prog w = .ok (.string ⟨l.toArray⟩) w := by
  have h := conv_row' (w := w) (g := g) (off := k) (cap := 20 - k) (bs := l) (fun j hj => by
    rw [hB.cell]
    simp only [byteCells, List.map_append, List.getElem?_toArray]
    rw [List.getElem?_append_right (by simp)]
    simp [hj])
  rw [show l.length = 20 - k from by omega] at h
  exact h
set_option maxRecDepth 100000 in
set_option maxHeartbeats 1000000 in
theorem dec_pos (n : Nat) (w : World) (h1 : n ≤ 9223372036854775807) :
    Calls Tryd.prog 12 #[.int .i64 (n : Int)] w fun e w' => e = .returned (.string ⟨(digL n).toArray⟩) ∧ Below w.heap.size w w' := by
  have hw : IntKind.u64.wrap (n : Int) = (n : Int) := by simp [IntKind.wrap, IntKind.bits, IntKind.signed]; omega
  have hnn : ((n : Int) < 0) = False := by simp
  have hsl := run_slice20 w.heap.size
  have HSL := hide hsl; clear hsl
  go_enter Tryd.func12, Tryd.ntmps12
  go_wp2_with fail
  have hB0 : Blk (w.alloc (.cells #[.int .u8 0, .int .u8 0, .int .u8 0, .int .u8 0, .int .u8 0, .int .u8 0, .int .u8 0, .int .u8 0, .int .u8 0, .int .u8 0, .int .u8 0, .int .u8 0, .int .u8 0, .int .u8 0, .int .u8 0, .int .u8 0, .int .u8 0, .int .u8 0, .int .u8 0, .int .u8 0] 64)) w.heap.size 64 (byteCells (List.replicate 20 0 ++ [])).toArray := Blk.new _ _ _
  have HB0 := hide hB0; clear hB0
  go_loopw [4, 5] (fun i u wr => ∃ (at_ m : Nat) (l : List UInt8), i = .int .i64 (at_ : Nat) ∧ u = .int .u64 (m : Nat) ∧ at_ ≤ 20 ∧ 2 ≤ at_ ∧ m < 10 ^ (at_ - 1) ∧ Hid (digL n = digL m ++ l) ∧ at_ + l.length = 20 ∧ Blk wr w.heap.size 64 (byteCells (List.replicate at_ 0 ++ l)).toArray ∧ Below w.heap.size w wr) (fun i _ _ => (intOf i).toNat)
  case atStart => exact ⟨20, n, [], rfl, rfl, by omega, by omega, by omega, by simp [Hid], rfl, unhide HB0, (Below.refl _ _).alloc (Nat.le_refl _) _⟩
  case round =>
    clear HB0
    obtain ⟨at_, m, l, rfl, rfl, ha, ha2, hm, hd, hl, hB, hb⟩ := hrel
    obtain ⟨k, rfl⟩ : ∃ k, at_ = k + 1 := ⟨at_ - 1, by omega⟩
    have hm10 : m < 10000000000000000000 := Nat.lt_of_lt_of_le hm (Nat.pow_le_pow_right (i := k + 1 - 1) (j := 19) (by omega : 10 > 0) (by omega))
    rw [show (((k + 1 : Nat) : Int)) = (k : Int) + 1 from by omega]
    have hk0 : (0 : Int) ≤ (k : Int) := by omega
    have hk20 : (k : Int) < 20 := by omega
    have f1 := hB.frozen k
    have c1 : wr.cell? ⟨w.heap.size, k, none⟩ = some (.int .u8 0) := by
      rw [hB.cell k]
      simp [byteCells, List.getElem?_append]
    have hlt10 : m % 10 < 10 := Nat.mod_lt _ (by omega)
    have hB' : Blk (wr.setCell ⟨w.heap.size, k, none⟩ (.int .u8 (48 + (m : Int) % 10))) w.heap.size 64 (byteCells (List.replicate k 0 ++ (48 + m % 10).toUInt8 :: l)).toArray := by
      have h := hB.set_ k (.int .u8 (((48 + m % 10).toUInt8).toNat : Int))
      rw [set_dig] at h
      rw [u8_of _ (by omega)] at h
      rw [show ((48 + m % 10 : Nat) : Int) = 48 + (m : Int) % 10 from by omega] at h
      exact h
    have hb' : Below w.heap.size w (wr.setCell ⟨w.heap.size, k, none⟩ (.int .u8 (48 + (m : Int) % 10))) := hb.setCell (Nat.le_refl _) _
    rcases Nat.lt_or_ge m 10 with hm9 | hm9
    · have hz : ((m : Int) / 10 == 0) = true := by simp; omega
      have hdm : Hid (digL n = (48 + m % 10).toUInt8 :: l) := by
        rw [Hid, hd.out, digL_lt hm9, Nat.mod_eq_of_lt hm9]; rfl
      have hcv := conv20 (by simp; omega) hB'
      have hs2 := unhide HSL k (by omega)
      have Hx := hide (And.intro hdm hb'); clear hd hl hB hb hdm hB' hb' hm
      go_wp2_with fail
      go_ret
      exact ⟨ret_str (by rw [(unhide Hx).1.out]; simp), (unhide Hx).2⟩
    · have hz : ((m : Int) / 10 == 0) = false := by simp; omega
      have hdm : Hid (digL n = digL (m / 10) ++ (48 + m % 10).toUInt8 :: l) := by
        rw [Hid, hd.out, digL_ge hm9, List.append_assoc]; rfl
      have hk2 : m / 10 < 10 ^ (k - 1) := by
        have e : k + 1 - 1 = k - 1 + 1 := by
          rcases Nat.eq_zero_or_pos k with h0 | h0
          · subst h0; simp at hm; omega
          · omega
        rw [e, Nat.pow_succ] at hm
        omega
      have hk3 : 2 ≤ k := by
        rcases Nat.lt_or_ge k 2 with h | h
        · have : k - 1 = 0 := by omega
          rw [this] at hk2
          simp at hk2
          omega
        · exact h
      have Hx := hide (And.intro hdm (And.intro hk2 (And.intro hl (And.intro hB' hb')))); clear hd hl hB hb hdm hB' hb' hm hk2
      go_wp2_with fail
      go_roundw
      case rel =>
        obtain ⟨hdm, hk2, hl, hB', hb'⟩ := unhide Hx
        exact ⟨k, m / 10, (48 + m % 10).toUInt8 :: l, rfl, by rfl, by omega, hk3, hk2, hdm, by simp; omega, hB', hb'⟩
      case measure => simp [intOf]
set_option maxRecDepth 100000 in
set_option maxHeartbeats 1000000 in
theorem dec_neg (n : Nat) (w : World) (h0 : 1 ≤ n) (h1 : n ≤ 9223372036854775808) :
    Calls Tryd.prog 12 #[.int .i64 (-(n : Int))] w fun e w' => e = .returned (.string ⟨(45 :: digL n).toArray⟩) ∧ Below w.heap.size w w' := by
  have hw : IntKind.u64.wrap (-IntKind.u64.wrap (-(n : Int))) = (n : Int) := by simp [IntKind.wrap, IntKind.bits, IntKind.signed]; omega
  have hnn : (-(n : Int) < 0) = True := by simp; omega
  have hsl := run_slice20 w.heap.size
  have HSL := hide hsl; clear hsl
  go_enter Tryd.func12, Tryd.ntmps12
  go_wp2_with fail
  have hB0 : Blk (w.alloc (.cells #[.int .u8 0, .int .u8 0, .int .u8 0, .int .u8 0, .int .u8 0, .int .u8 0, .int .u8 0, .int .u8 0, .int .u8 0, .int .u8 0, .int .u8 0, .int .u8 0, .int .u8 0, .int .u8 0, .int .u8 0, .int .u8 0, .int .u8 0, .int .u8 0, .int .u8 0, .int .u8 0] 64)) w.heap.size 64 (byteCells (List.replicate 20 0 ++ [])).toArray := Blk.new _ _ _
  have HB0 := hide hB0; clear hB0
  go_loopw [4, 5] (fun i u wr => ∃ (at_ m : Nat) (l : List UInt8), i = .int .i64 (at_ : Nat) ∧ u = .int .u64 (m : Nat) ∧ at_ ≤ 20 ∧ 2 ≤ at_ ∧ m < 10 ^ (at_ - 1) ∧ Hid (digL n = digL m ++ l) ∧ at_ + l.length = 20 ∧ Blk wr w.heap.size 64 (byteCells (List.replicate at_ 0 ++ l)).toArray ∧ Below w.heap.size w wr) (fun i _ _ => (intOf i).toNat)
  case atStart => exact ⟨20, n, [], rfl, rfl, by omega, by omega, by omega, by simp [Hid], rfl, unhide HB0, (Below.refl _ _).alloc (Nat.le_refl _) _⟩
  case round =>
    clear HB0
    obtain ⟨at_, m, l, rfl, rfl, ha, ha2, hm, hd, hl, hB, hb⟩ := hrel
    obtain ⟨k, rfl⟩ : ∃ k, at_ = k + 1 := ⟨at_ - 1, by omega⟩
    have hm10 : m < 10000000000000000000 := Nat.lt_of_lt_of_le hm (Nat.pow_le_pow_right (i := k + 1 - 1) (j := 19) (by omega : 10 > 0) (by omega))
    rw [show (((k + 1 : Nat) : Int)) = (k : Int) + 1 from by omega]
    have hk0 : (0 : Int) ≤ (k : Int) := by omega
    have hk20 : (k : Int) < 20 := by omega
    have f1 := hB.frozen k
    have c1 : wr.cell? ⟨w.heap.size, k, none⟩ = some (.int .u8 0) := by
      rw [hB.cell k]
      simp [byteCells, List.getElem?_append]
    have hlt10 : m % 10 < 10 := Nat.mod_lt _ (by omega)
    have hB' : Blk (wr.setCell ⟨w.heap.size, k, none⟩ (.int .u8 (48 + (m : Int) % 10))) w.heap.size 64 (byteCells (List.replicate k 0 ++ (48 + m % 10).toUInt8 :: l)).toArray := by
      have h := hB.set_ k (.int .u8 (((48 + m % 10).toUInt8).toNat : Int))
      rw [set_dig] at h
      rw [u8_of _ (by omega)] at h
      rw [show ((48 + m % 10 : Nat) : Int) = 48 + (m : Int) % 10 from by omega] at h
      exact h
    have hb' : Below w.heap.size w (wr.setCell ⟨w.heap.size, k, none⟩ (.int .u8 (48 + (m : Int) % 10))) := hb.setCell (Nat.le_refl _) _
    rcases Nat.lt_or_ge m 10 with hm9 | hm9
    · have hz : ((m : Int) / 10 == 0) = true := by simp; omega
      have hdm : Hid (digL n = (48 + m % 10).toUInt8 :: l) := by
        rw [Hid, hd.out, digL_lt hm9, Nat.mod_eq_of_lt hm9]; rfl
      obtain ⟨j, rfl⟩ : ∃ j, k = j + 1 := ⟨k - 1, by omega⟩
      have f2 := hB'.frozen j
      have c2 : (wr.setCell ⟨w.heap.size, j + 1, none⟩ (.int .u8 (48 + (m : Int) % 10))).cell? ⟨w.heap.size, j, none⟩ = some (.int .u8 0) := by
        rw [hB'.cell j]
        simp [byteCells, List.getElem?_append]
      have hB2 : Blk ((wr.setCell ⟨w.heap.size, j + 1, none⟩ (.int .u8 (48 + (m : Int) % 10))).setCell ⟨w.heap.size, j, none⟩ (.int .u8 45)) w.heap.size 64 (byteCells (List.replicate j 0 ++ 45 :: (48 + m % 10).toUInt8 :: l)).toArray := by
        have h := hB'.set_ j (.int .u8 (((45 : UInt8)).toNat : Int))
        rw [set_dig] at h
        exact h
      have hcv := conv20 (by simp; omega) hB2
      have hs2 := unhide HSL j (by omega)
      have hb2 := hb'.setCell (p := ⟨w.heap.size, j, none⟩) (Nat.le_refl _) (.int .u8 45)
      have hj0 : (0 : Int) ≤ (j : Int) := by omega
      have Hx := hide (And.intro hdm hb2); clear hd hl hB hb hdm hB' hb' hm hB2 hb2
      rw [show (((j + 1 : Nat) : Int)) = (j : Int) + 1 from by omega]
      go_wp2_with fail
      go_ret
      exact ⟨ret_str (by rw [(unhide Hx).1.out]; simp), (unhide Hx).2⟩
    · have hz : ((m : Int) / 10 == 0) = false := by simp; omega
      have hdm : Hid (digL n = digL (m / 10) ++ (48 + m % 10).toUInt8 :: l) := by
        rw [Hid, hd.out, digL_ge hm9, List.append_assoc]; rfl
      have hk2 : m / 10 < 10 ^ (k - 1) := by
        have e : k + 1 - 1 = k - 1 + 1 := by
          rcases Nat.eq_zero_or_pos k with h0 | h0
          · subst h0; simp at hm; omega
          · omega
        rw [e, Nat.pow_succ] at hm
        omega
      have hk3 : 2 ≤ k := by
        rcases Nat.lt_or_ge k 2 with h | h
        · have : k - 1 = 0 := by omega
          rw [this] at hk2
          simp at hk2
          omega
        · exact h
      have Hx := hide (And.intro hdm (And.intro hk2 (And.intro hl (And.intro hB' hb')))); clear hd hl hB hb hdm hB' hb' hm hk2
      go_wp2_with fail
      go_roundw
      case rel =>
        obtain ⟨hdm, hk2, hl, hB', hb'⟩ := unhide Hx
        exact ⟨k, m / 10, (48 + m % 10).toUInt8 :: l, rfl, by rfl, by omega, hk3, hk2, hdm, by simp; omega, hB', hb'⟩
      case measure => simp [intOf]
theorem dec_any (z : Int) (w : World) (h0 : -9223372036854775808 ≤ z) (h1 : z ≤ 9223372036854775807) :
    Calls Tryd.prog 12 #[.int .i64 z] w fun e w' => e = .returned (.string (decS z)) ∧ Below w.heap.size w w' := by
  by_cases hz : z < 0
  · have h := dec_neg (-z).toNat w (by omega) (by omega)
    rw [show (-((-z).toNat : Int)) = z from by omega] at h
    refine h.mono ?_
    rintro e w' ⟨rfl, hb⟩
    exact ⟨ret_str (by unfold decS decL; rw [if_neg (by omega)]), hb⟩
  · have h := dec_pos z.toNat w (by omega)
    rw [show ((z.toNat : Int)) = z from by omega] at h
    refine h.mono ?_
    rintro e w' ⟨rfl, hb⟩
    exact ⟨ret_str (by unfold decS decL; rw [if_pos (by omega)]), hb⟩
set_option maxRecDepth 100000 in
theorem sign_any (s : ByteArray) (v : Nat) (w : World) (hv : v < s.size) (hs : s.size ≤ 1000) :
    Calls Tryd.prog 28 #[.string s, .int .i64 (v : Int)] w fun e w' => e = .returned (.string (s.extract v (v + 1))) ∧ w = w' := by
  have h1 : (v : Int) + 1 ≤ s.size := by omega
  have h0 : (0 : Int) ≤ (v : Int) := by omega
  go_enter Tryd.func28, Tryd.ntmps28
  go_wp2
  go_ret
  exact ⟨rfl, rfl⟩
/-- "0123456789abcdef" -/
def smallS : ByteArray := ⟨#[48, 49, 50, 51, 52, 53, 54, 55, 56, 57, 97, 98, 99, 100, 101, 102]⟩
theorem small_at (v : Nat) (h : v < 10) : smallS.extract v (v + 1) = ⟨#[(48 + v).toUInt8]⟩ := by
  match v, h with
  | 0, _ => rfl
  | 1, _ => rfl
  | 2, _ => rfl
  | 3, _ => rfl
  | 4, _ => rfl
  | 5, _ => rfl
  | 6, _ => rfl
  | 7, _ => rfl
  | 8, _ => rfl
  | 9, _ => rfl
theorem sign10 (v : Nat) (w : World) (h : v < 10) :
    Calls Tryd.prog 28 #[.string ⟨#[48, 49, 50, 51, 52, 53, 54, 55, 56, 57, 97, 98, 99, 100, 101, 102]⟩, .int .i64 (v : Int)] w fun e w' => e = .returned (.string ⟨#[(48 + v).toUInt8]⟩) ∧ w = w' := by
  refine (sign_any smallS v w (by show v < 16; omega) (by decide)).mono ?_
  rintro e w' ⟨rfl, rfl⟩
  exact ⟨ret_str (small_at v h), rfl⟩
theorem bs_eq {a b : ByteArray} (h : a.data.toList = b.data.toList) : a = b := ByteArray.ext (Array.ext' h)
set_option maxRecDepth 100000 in
theorem rdec_pos : ∀ (k n : Nat) (w : World), n < 10 ^ k → n ≤ 9223372036854775807 →
    Calls Tryd.prog 15 #[.int .i64 (n : Int)] w fun e w' => e = .returned (.string ⟨(digL n).toArray⟩) ∧ w = w'
  | 0, n, w, h, h1 => by
    have : n = 0 := by simpa using h
    subst this
    have hs := sign10 0 w (by omega)
    have hd : Hid (digL 0 = [(48 + 0).toUInt8]) := digL_lt (by omega)
    go_enter Tryd.func15, Tryd.ntmps15
    go_wp2_with fail
    refine hs.mono ?_
    rintro e w' ⟨rfl, rfl⟩
    go_wp2_with fail
    go_ret
    exact ⟨ret_str (by rw [hd.out]; rfl), rfl⟩
  | k + 1, n, w, h, h1 => by
    rcases Nat.lt_or_ge n 10 with h9 | h9
    · have hs := sign10 n w h9
      have hd : Hid (digL n = [(48 + n).toUInt8]) := digL_lt h9
      go_enter Tryd.func15, Tryd.ntmps15
      go_wp2_with fail
      refine hs.mono ?_
      rintro e w' ⟨rfl, rfl⟩
      go_wp2_with fail
      go_ret
      exact ⟨ret_str (by rw [hd.out]; simp), rfl⟩
    · have ih := rdec_pos k (n / 10) w (by rw [Nat.pow_succ] at h; omega) (by omega)
      have hs := sign10 (n % 10) w (Nat.mod_lt _ (by omega))
      have hd : Hid (digL n = digL (n / 10) ++ [(48 + n % 10).toUInt8]) := digL_ge h9
      have hl : ((⟨(digL (n / 10)).toArray⟩ : ByteArray)).size ≤ 40 := by
        have := digL_length 19 (n / 10) (by omega) (by omega)
        simp [ByteArray.size]; omega
      have Hs := hide hs; clear hs
      have Hih := hide ih; clear ih
      go_enter Tryd.func15, Tryd.ntmps15
      go_wp2_with fail
      refine (unhide Hih).mono ?_
      rintro e w' ⟨rfl, rfl⟩
      obtain ⟨x, hx⟩ : ∃ x, Hid ((⟨(digL (n / 10)).toArray⟩ : ByteArray) = x) := ⟨_, Lib.hid rfl⟩
      rw [hx.out] at hl ⊢
      go_wp2_with fail
      refine (unhide Hs).mono ?_
      rintro e w' ⟨rfl, rfl⟩
      go_wp2_with fail
      go_ret
      refine ⟨ret_str (bs_eq ?_), rfl⟩
      rw [hd.out, ← hx.out]
      simp [ByteArray.data_append]
set_option maxRecDepth 100000 in
theorem rdec_neg : ∀ (k n : Nat) (w : World), n < 10 ^ k → 1 ≤ n → n ≤ 9223372036854775808 →
    Calls Tryd.prog 15 #[.int .i64 (-(n : Int))] w fun e w' => e = .returned (.string ⟨(45 :: digL n).toArray⟩) ∧ w = w'
  | 0, n, w, h, h0, h1 => by
    have : n = 0 := by simpa using h
    omega
  | k + 1, n, w, h, h0, h1 => by
    rcases Nat.lt_or_ge n 10 with h9 | h9
    · have hs := sign10 n w h9
      have hd : Hid (digL n = [(48 + n).toUInt8]) := digL_lt h9
      go_enter Tryd.func15, Tryd.ntmps15
      go_wp2_with fail
      refine hs.mono ?_
      rintro e w' ⟨rfl, rfl⟩
      go_wp2_with fail
      go_ret
      exact ⟨ret_str (bs_eq (by rw [hd.out]; simp [ByteArray.data_append])), rfl⟩
    · have ih := rdec_neg k (n / 10) w (by rw [Nat.pow_succ] at h; omega) (by omega) (by omega)
      have hs := sign10 (n % 10) w (Nat.mod_lt _ (by omega))
      have hd : Hid (digL n = digL (n / 10) ++ [(48 + n % 10).toUInt8]) := digL_ge h9
      have hl : ((⟨(45 :: digL (n / 10)).toArray⟩ : ByteArray)).size ≤ 40 := by
        have := digL_length 19 (n / 10) (by omega) (by omega)
        simp [ByteArray.size]; omega
      have Hs := hide hs; clear hs
      have Hih := hide ih; clear ih
      go_enter Tryd.func15, Tryd.ntmps15
      go_wp2_with fail
      refine (unhide Hih).mono ?_
      rintro e w' ⟨rfl, rfl⟩
      obtain ⟨x, hx⟩ : ∃ x, Hid ((⟨(45 :: digL (n / 10)).toArray⟩ : ByteArray) = x) := ⟨_, Lib.hid rfl⟩
      rw [hx.out] at hl ⊢
      go_wp2_with fail
      refine (unhide Hs).mono ?_
      rintro e w' ⟨rfl, rfl⟩
      go_wp2_with fail
      go_ret
      refine ⟨ret_str (bs_eq ?_), rfl⟩
      rw [hd.out, ← hx.out]
      simp [ByteArray.data_append]
theorem rdec_any (z : Int) (w : World) (h0 : -9223372036854775808 ≤ z) (h1 : z ≤ 9223372036854775807) :
    Calls Tryd.prog 15 #[.int .i64 z] w fun e w' => e = .returned (.string (decS z)) ∧ w = w' := by
  by_cases hz : z < 0
  · have h := rdec_neg 19 (-z).toNat w (by omega) (by omega) (by omega)
    rw [show (-((-z).toNat : Int)) = z from by omega] at h
    refine h.mono ?_
    rintro e w' ⟨rfl, hb⟩
    exact ⟨ret_str (by unfold decS decL; rw [if_neg (by omega)]), hb⟩
  · have h := rdec_pos 19 z.toNat w (by omega) (by omega)
    rw [show ((z.toNat : Int)) = z from by omega] at h
    refine h.mono ?_
    rintro e w' ⟨rfl, hb⟩
    exact ⟨ret_str (by unfold decS decL; rw [if_pos (by omega)]), hb⟩
end Go.Proofs.YtphjpdnheaeghaaDoor

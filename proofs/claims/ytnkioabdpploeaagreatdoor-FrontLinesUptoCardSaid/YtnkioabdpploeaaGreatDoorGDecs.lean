/-
  Several texts in one: CONTRACTS of package text and of the document's answer for it: a number in decimal digits. | THE PLAIN LAW of numbers read back: whoever reads the digits of a number finds it, the program's way and the document's. | CONTRACTS of package text and of the document's answer for it: a number in decimal digits is read. | CONTRACTS of package text and of the document's answer for it: base64 is written. | THE PLAIN LAW of base64 read back: whoever reads what was written finds it, the program's way and the document's.
-/
import Derived.Test.YtnkioabdpploeaaGreatDoorRows
import Derived.StillTailTactics
import Derived.Deep.RegionHeld3
import Derived.Test.YtnkioabdpploeaaGreatDoorGBase
set_option linter.unusedVariables false
set_option linter.unusedSimpArgs false
namespace Go.Proofs.YtnkioabdpploeaaGreatDoor
open Go.RowKit Go.Lib
/-- Decimal digits. -/
def digL (n : Nat) : List UInt8 := if n < 10 then [(48 + n).toUInt8] else digL (n / 10) ++ [(48 + n % 10).toUInt8]
def decL (z : Int) : List UInt8 := if 0 ≤ z then digL z.toNat else 45 :: digL (-z).toNat
def decS (z : Int) : ByteArray := ⟨(decL z).toArray⟩
theorem digL_lt {n : Nat} (h : n < 10) : digL n = [(48 + n).toUInt8] := by rw [digL, if_pos h]
theorem digL_ge {n : Nat} (h : 10 ≤ n) : digL n = digL (n / 10) ++ [(48 + n % 10).toUInt8] := by rw [digL, if_neg (by omega)]
theorem digL_length : ∀ (k n : Nat), n < 10 ^ k → 0 < k → (digL n).length ≤ k
  | 0, n, h, h0 => by omega
  | 1, n, h, h0 => by rw [digL_lt (by simpa using h)]; simp
  | k + 2, n, h, h0 => by
    by_cases h1 : n < 10
    · rw [digL_lt h1]; simp
    · rw [digL_ge (by omega), List.length_append]
      have := digL_length (k + 1) (n / 10) (by rw [Nat.pow_succ] at h; omega) (by omega)
      simp; omega
/-- Digits on an array of zeros. -/
theorem set_dig (at_ : Nat) (l : List UInt8) (c : UInt8) : (byteCells (List.replicate (at_ + 1) 0 ++ l)).toArray.setIfInBounds at_ (.int .u8 (c.toNat : Int)) = (byteCells (List.replicate at_ 0 ++ c :: l)).toArray := by
  apply Array.ext'
  simp only [List.setIfInBounds_toArray]
  rw [List.replicate_succ']
  simp only [byteCells, List.map_append, List.map_cons, List.map_nil, List.append_assoc]
  rw [List.set_append_right _ _ (by simp)]
  simp
theorem conv_row' {w : World} {g off cap : Nat} {bs : List UInt8} (h : ∀ j (hj : j < bs.length), w.cell? ⟨g, off + j, none⟩ = some (.int .u8 (bs[j].toNat : Int))) :
    (convert 84 9 (.slice (some ⟨g, off, none⟩) bs.length cap)).run Tryz.prog w = .ok (.string ⟨bs.toArray⟩) w :=
  Go.run_convert_bytes_back w 84 9 5 ⟨g, off, none⟩ cap bs Tryz.underlying84 Tryz.underlying5 Tryz.underlying9 (fun j hj => by
    have hadd : (⟨g, off, none⟩ : Addr).add j = ⟨g, off + j, none⟩ := by unfold Addr.add; split <;> simp_all
    rw [hadd]
    exact h j hj)
theorem u8_of (x : Nat) (h : x < 256) : Value.int .u8 ((x.toUInt8).toNat : Int) = .int .u8 (x : Int) := by
  have e : (x.toUInt8).toNat = x % 256 := UInt8.toNat_ofNat' ..
  rw [e, Nat.mod_eq_of_lt h]
theorem run_slice20 (g : Nat) (r : Nat) (h : r < 20) (w : World) :
    (Instr.sliceAt 85 (.pointer (some ⟨g, 0, none⟩)) (some (.int .i64 (r : Int))) none none).run Tryz.prog w = .ok (.slice (some ⟨g, r, none⟩) (20 - r) (20 - r)) w := by
  have ht : Tryz.prog.underlying 85 = some (.array (Tryz.prog.arrayLen 85) (Tryz.prog.elem 85)) := by kernel_rfl
  have hl : Tryz.prog.arrayLen 85 = 20 := by kernel_rfl
  have hs : (sizeOf (Tryz.prog.elem 85)).run Tryz.prog w = .ok 1 w := by kernel_rfl
  rw [run_sliceAt_array_l w _ _ ht .i64 (r : Int) (by omega) (by rw [hl]; omega), hs, hl]
  simp only [Result.andThen, slicedAt, Addr.add]
  rw [if_neg (by omega)]
  simp
  omega
theorem conv20 {w : World} {g k : Nat} {l : List UInt8} (hl : k + l.length = 20) (hB : Blk w g 85 (byteCells (List.replicate k 0 ++ l)).toArray) :
    (convert 84 9 (.slice (some ⟨g, k, none⟩) (20 - k) (20 - k))).run Tryz.prog w = .ok (.string ⟨l.toArray⟩) w := by
  have h := conv_row' (w := w) (g := g) (off := k) (cap := 20 - k) (bs := l) (fun j hj => by
    rw [hB.cell]
    simp only [byteCells, List.map_append, List.getElem?_toArray]
    rw [List.getElem?_append_right (by simp)]
    simp [hj])
  rw [show l.length = 20 - k from by omega] at h
  exact h
set_option maxRecDepth 100000 in
set_option maxHeartbeats 1000000 in
theorem dec_pos (n : Nat) (w : World) (h1 : n ≤ 9223372036854775807) :
    Calls Tryz.prog 31 #[.int .i64 (n : Int)] w fun e w' => e = .returned (.string ⟨(digL n).toArray⟩) ∧ Below w.heap.size w w' := by
  have hw : IntKind.u64.wrap (n : Int) = (n : Int) := by simp [IntKind.wrap, IntKind.bits, IntKind.signed]; omega
  have hnn : ((n : Int) < 0) = False := by simp
  have hsl := run_slice20 w.heap.size
  have HSL := hide hsl; clear hsl
  go_enter Tryz.func31, Tryz.ntmps31
  go_wp2_with fail
  have hB0 : Blk (w.alloc (.cells #[.int .u8 0, .int .u8 0, .int .u8 0, .int .u8 0, .int .u8 0, .int .u8 0, .int .u8 0, .int .u8 0, .int .u8 0, .int .u8 0, .int .u8 0, .int .u8 0, .int .u8 0, .int .u8 0, .int .u8 0, .int .u8 0, .int .u8 0, .int .u8 0, .int .u8 0, .int .u8 0] 85)) w.heap.size 85 (byteCells (List.replicate 20 0 ++ [])).toArray := Blk.new _ _ _
  have HB0 := hide hB0; clear hB0
  go_loopw [4, 5] (fun i u wr => ∃ (at_ m : Nat) (l : List UInt8), i = .int .i64 (at_ : Nat) ∧ u = .int .u64 (m : Nat) ∧ at_ ≤ 20 ∧ 2 ≤ at_ ∧ m < 10 ^ (at_ - 1) ∧ Hid (digL n = digL m ++ l) ∧ at_ + l.length = 20 ∧ Blk wr w.heap.size 85 (byteCells (List.replicate at_ 0 ++ l)).toArray ∧ Below w.heap.size w wr) (fun i _ _ => (intOf i).toNat)
  case atStart => exact ⟨20, n, [], rfl, rfl, by omega, by omega, by omega, by simp [Hid], rfl, unhide HB0, (Below.refl _ _).alloc (Nat.le_refl _) _⟩
  case round =>
    clear HB0
    obtain ⟨at_, m, l, rfl, rfl, ha, ha2, hm, hd, hl, hB, hb⟩ := hrel
    obtain ⟨k, rfl⟩ : ∃ k, at_ = k + 1 := ⟨at_ - 1, by omega⟩
    have hm10 : m < 10000000000000000000 := Nat.lt_of_lt_of_le hm (Nat.pow_le_pow_right (i := k + 1 - 1) (j := 19) (by omega : 10 > 0) (by omega))
    rw [show (((k + 1 : Nat) : Int)) = (k : Int) + 1 from by omega]
    have hk0 : (0 : Int) ≤ (k : Int) := by omega
    have hk20 : (k : Int) < 20 := by omega
    have f1 := hB.frozen k
    have c1 : wr.cell? ⟨w.heap.size, k, none⟩ = some (.int .u8 0) := by
      rw [hB.cell k]
      simp [byteCells, List.getElem?_append]
    have hlt10 : m % 10 < 10 := Nat.mod_lt _ (by omega)
    have hB' : Blk (wr.setCell ⟨w.heap.size, k, none⟩ (.int .u8 (48 + (m : Int) % 10))) w.heap.size 85 (byteCells (List.replicate k 0 ++ (48 + m % 10).toUInt8 :: l)).toArray := by
      have h := hB.set_ k (.int .u8 (((48 + m % 10).toUInt8).toNat : Int))
      rw [set_dig] at h
      rw [u8_of _ (by omega)] at h
      rw [show ((48 + m % 10 : Nat) : Int) = 48 + (m : Int) % 10 from by omega] at h
      exact h
    have hb' : Below w.heap.size w (wr.setCell ⟨w.heap.size, k, none⟩ (.int .u8 (48 + (m : Int) % 10))) := hb.setCell (Nat.le_refl _) _
    rcases Nat.lt_or_ge m 10 with hm9 | hm9
    · have hz : ((m : Int) / 10 == 0) = true := by simp; omega
      have hdm : Hid (digL n = (48 + m % 10).toUInt8 :: l) := by
        rw [Hid, hd.out, digL_lt hm9, Nat.mod_eq_of_lt hm9]; rfl
      have hcv := conv20 (by simp; omega) hB'
      have hs2 := unhide HSL k (by omega)
      have Hx := hide (And.intro hdm hb'); clear hd hl hB hb hdm hB' hb' hm
      go_wp2_with fail
      go_ret
      exact ⟨ret_str (by rw [(unhide Hx).1.out]; simp), (unhide Hx).2⟩
    · have hz : ((m : Int) / 10 == 0) = false := by simp; omega
      have hdm : Hid (digL n = digL (m / 10) ++ (48 + m % 10).toUInt8 :: l) := by
        rw [Hid, hd.out, digL_ge hm9, List.append_assoc]; rfl
      have hk2 : m / 10 < 10 ^ (k - 1) := by
        have e : k + 1 - 1 = k - 1 + 1 := by
          rcases Nat.eq_zero_or_pos k with h0 | h0
          · subst h0; simp at hm; omega
          · omega
        rw [e, Nat.pow_succ] at hm
        omega
      have hk3 : 2 ≤ k := by
        rcases Nat.lt_or_ge k 2 with h | h
        · have : k - 1 = 0 := by omega
          rw [this] at hk2
          simp at hk2
          omega
        · exact h
      have Hx := hide (And.intro hdm (And.intro hk2 (And.intro hl (And.intro hB' hb')))); clear hd hl hB hb hdm hB' hb' hm hk2
      go_wp2_with fail
      go_roundw
      case rel =>
        obtain ⟨hdm, hk2, hl, hB', hb'⟩ := unhide Hx
        exact ⟨k, m / 10, (48 + m % 10).toUInt8 :: l, rfl, by rfl, by omega, hk3, hk2, hdm, by simp; omega, hB', hb'⟩
      case measure => simp [intOf]
set_option maxRecDepth 100000 in
set_option maxHeartbeats 1000000 in
theorem dec_neg (n : Nat) (w : World) (h0 : 1 ≤ n) (h1 : n ≤ 9223372036854775808) :
    Calls Tryz.prog 31 #[.int .i64 (-(n : Int))] w fun e w' => e = .returned (.string ⟨(45 :: digL n).toArray⟩) ∧ Below w.heap.size w w' := by
  have hw : IntKind.u64.wrap (-IntKind.u64.wrap (-(n : Int))) = (n : Int) := by simp [IntKind.wrap, IntKind.bits, IntKind.signed]; omega
  have hnn : (-(n : Int) < 0) = True := by simp; omega
  have hsl := run_slice20 w.heap.size
  have HSL := hide hsl; clear hsl
  go_enter Tryz.func31, Tryz.ntmps31
  go_wp2_with fail
  have hB0 : Blk (w.alloc (.cells #[.int .u8 0, .int .u8 0, .int .u8 0, .int .u8 0, .int .u8 0, .int .u8 0, .int .u8 0, .int .u8 0, .int .u8 0, .int .u8 0, .int .u8 0, .int .u8 0, .int .u8 0, .int .u8 0, .int .u8 0, .int .u8 0, .int .u8 0, .int .u8 0, .int .u8 0, .int .u8 0] 85)) w.heap.size 85 (byteCells (List.replicate 20 0 ++ [])).toArray := Blk.new _ _ _
  have HB0 := hide hB0; clear hB0
  go_loopw [4, 5] (fun i u wr => ∃ (at_ m : Nat) (l : List UInt8), i = .int .i64 (at_ : Nat) ∧ u = .int .u64 (m : Nat) ∧ at_ ≤ 20 ∧ 2 ≤ at_ ∧ m < 10 ^ (at_ - 1) ∧ Hid (digL n = digL m ++ l) ∧ at_ + l.length = 20 ∧ Blk wr w.heap.size 85 (byteCells (List.replicate at_ 0 ++ l)).toArray ∧ Below w.heap.size w wr) (fun i _ _ => (intOf i).toNat)
  case atStart => exact ⟨20, n, [], rfl, rfl, by omega, by omega, by omega, by simp [Hid], rfl, unhide HB0, (Below.refl _ _).alloc (Nat.le_refl _) _⟩
  case round =>
    clear HB0
    obtain ⟨at_, m, l, rfl, rfl, ha, ha2, hm, hd, hl, hB, hb⟩ := hrel
    obtain ⟨k, rfl⟩ : ∃ k, at_ = k + 1 := ⟨at_ - 1, by omega⟩
    have hm10 : m < 10000000000000000000 := Nat.lt_of_lt_of_le hm (Nat.pow_le_pow_right (i := k + 1 - 1) (j := 19) (by omega : 10 > 0) (by omega))
    rw [show (((k + 1 : Nat) : Int)) = (k : Int) + 1 from by omega]
    have hk0 : (0 : Int) ≤ (k : Int) := by omega
    have hk20 : (k : Int) < 20 := by omega
    have f1 := hB.frozen k
    have c1 : wr.cell? ⟨w.heap.size, k, none⟩ = some (.int .u8 0) := by
      rw [hB.cell k]
      simp [byteCells, List.getElem?_append]
    have hlt10 : m % 10 < 10 := Nat.mod_lt _ (by omega)
    have hB' : Blk (wr.setCell ⟨w.heap.size, k, none⟩ (.int .u8 (48 + (m : Int) % 10))) w.heap.size 85 (byteCells (List.replicate k 0 ++ (48 + m % 10).toUInt8 :: l)).toArray := by
      have h := hB.set_ k (.int .u8 (((48 + m % 10).toUInt8).toNat : Int))
      rw [set_dig] at h
      rw [u8_of _ (by omega)] at h
      rw [show ((48 + m % 10 : Nat) : Int) = 48 + (m : Int) % 10 from by omega] at h
      exact h
    have hb' : Below w.heap.size w (wr.setCell ⟨w.heap.size, k, none⟩ (.int .u8 (48 + (m : Int) % 10))) := hb.setCell (Nat.le_refl _) _
    rcases Nat.lt_or_ge m 10 with hm9 | hm9
    · have hz : ((m : Int) / 10 == 0) = true := by simp; omega
      have hdm : Hid (digL n = (48 + m % 10).toUInt8 :: l) := by
        rw [Hid, hd.out, digL_lt hm9, Nat.mod_eq_of_lt hm9]; rfl
      obtain ⟨j, rfl⟩ : ∃ j, k = j + 1 := ⟨k - 1, by omega⟩
      have f2 := hB'.frozen j
      have c2 : (wr.setCell ⟨w.heap.size, j + 1, none⟩ (.int .u8 (48 + (m : Int) % 10))).cell? ⟨w.heap.size, j, none⟩ = some (.int .u8 0) := by
        rw [hB'.cell j]
        simp [byteCells, List.getElem?_append]
      have hB2 : Blk ((wr.setCell ⟨w.heap.size, j + 1, none⟩ (.int .u8 (48 + (m : Int) % 10))).setCell ⟨w.heap.size, j, none⟩ (.int .u8 45)) w.heap.size 85 (byteCells (List.replicate j 0 ++ 45 :: (48 + m % 10).toUInt8 :: l)).toArray := by
        have h := hB'.set_ j (.int .u8 (((45 : UInt8)).toNat : Int))
        rw [set_dig] at h
        exact h
      have hcv := conv20 (by simp; omega) hB2
      have hs2 := unhide HSL j (by omega)
      have hb2 := hb'.setCell (p := ⟨w.heap.size, j, none⟩) (Nat.le_refl _) (.int .u8 45)
      have hj0 : (0 : Int) ≤ (j : Int) := by omega
      have Hx := hide (And.intro hdm hb2); clear hd hl hB hb hdm hB' hb' hm hB2 hb2
      rw [show (((j + 1 : Nat) : Int)) = (j : Int) + 1 from by omega]
      go_wp2_with fail
      go_ret
      exact ⟨ret_str (by rw [(unhide Hx).1.out]; simp), (unhide Hx).2⟩
    · have hz : ((m : Int) / 10 == 0) = false := by simp; omega
      have hdm : Hid (digL n = digL (m / 10) ++ (48 + m % 10).toUInt8 :: l) := by
        rw [Hid, hd.out, digL_ge hm9, List.append_assoc]; rfl
      have hk2 : m / 10 < 10 ^ (k - 1) := by
        have e : k + 1 - 1 = k - 1 + 1 := by
          rcases Nat.eq_zero_or_pos k with h0 | h0
          · subst h0; simp at hm; omega
          · omega
        rw [e, Nat.pow_succ] at hm
        omega
      have hk3 : 2 ≤ k := by
        rcases Nat.lt_or_ge k 2 with h | h
        · have : k - 1 = 0 := by omega
          rw [this] at hk2
          simp at hk2
          omega
        · exact h
      have Hx := hide (And.intro hdm (And.intro hk2 (And.intro hl (And.intro hB' hb')))); clear hd hl hB hb hdm hB' hb' hm hk2
      go_wp2_with fail
      go_roundw
      case rel =>
        obtain ⟨hdm, hk2, hl, hB', hb'⟩ := unhide Hx
        exact ⟨k, m / 10, (48 + m % 10).toUInt8 :: l, rfl, by rfl, by omega, hk3, hk2, hdm, by simp; omega, hB', hb'⟩
      case measure => simp [intOf]
theorem dec_any (z : Int) (w : World) (h0 : -9223372036854775808 ≤ z) (h1 : z ≤ 9223372036854775807) :
    Calls Tryz.prog 31 #[.int .i64 z] w fun e w' => e = .returned (.string (decS z)) ∧ Below w.heap.size w w' := by
  by_cases hz : z < 0
  · have h := dec_neg (-z).toNat w (by omega) (by omega)
    rw [show (-((-z).toNat : Int)) = z from by omega] at h
    refine h.mono ?_
    rintro e w' ⟨rfl, hb⟩
    exact ⟨ret_str (by unfold decS decL; rw [if_neg (by omega)]), hb⟩
  · have h := dec_pos z.toNat w (by omega)
    rw [show ((z.toNat : Int)) = z from by omega] at h
    refine h.mono ?_
    rintro e w' ⟨rfl, hb⟩
    exact ⟨ret_str (by unfold decS decL; rw [if_pos (by omega)]), hb⟩
theorem bs_eq {a b : ByteArray} (h : a.data.toList = b.data.toList) : a = b := ByteArray.ext (Array.ext' h)
end Go.Proofs.YtnkioabdpploeaaGreatDoor

set_option linter.unusedVariables false
set_option linter.unusedSimpArgs false
namespace Go.Proofs.YtnkioabdpploeaaGreatDoor
open Go.RowKit
theorem wrap64_mod (x : Int) : ∃ k : Int, wrap64 x = x + k * 18446744073709551616 := by
  refine ⟨-((x + 9223372036854775808) / 18446744073709551616), ?_⟩
  unfold wrap64
  omega
theorem wrap64_of (x y : Int) (k : Int) (h : x = y + k * 18446744073709551616) : wrap64 x = wrap64 y := by
  subst h
  unfold wrap64
  omega
theorem stepA (x a b : Int) (h : 10 * x + a - 48 = b) : wrap64 (10 * wrap64 x + a - 48) = wrap64 b := by
  obtain ⟨k, hk⟩ := wrap64_mod x
  rw [hk]
  exact wrap64_of _ _ (10 * k) (by omega)
theorem wrap64_lo (x : Int) : -9223372036854775808 ≤ wrap64 x ∧ wrap64 x ≤ 9223372036854775807 := by unfold wrap64; omega
theorem wrap64_id (x : Int) (h0 : -9223372036854775808 ≤ x) (h1 : x ≤ 9223372036854775807) : wrap64 x = x := by unfold wrap64; omega
theorem wrap64_neg (x : Int) (h0 : -9223372036854775808 ≤ x) (h1 : x ≤ 9223372036854775807) (m : Int) (h : m = -x) : wrap64 (-(wrap64 m)) = x := by
  subst h
  obtain ⟨k, hk⟩ := wrap64_mod (-x)
  rw [hk, wrap64_of _ x (-k) (by omega), wrap64_id x h0 h1]
/-- One digit more, the program's way and the document's. -/
def undStep (n : Int) (c : UInt8) : Int := wrap64 (10 * n + (c.toNat : Int) - 48)
theorem dig_nat (d : Nat) (h : d < 10) : ((48 + d).toUInt8).toNat = 48 + d := by
  have e : ((48 + d).toUInt8).toNat = (48 + d) % 256 := UInt8.toNat_ofNat' ..
  omega
theorem und_dig (m : Nat) : (digL m).foldl undStep 0 = wrap64 m := by
  induction m using Nat.strongRecOn with
  | _ m ih =>
    rcases Nat.lt_or_ge m 10 with h | h
    · rw [digL_lt h]
      rw [List.foldl_cons, List.foldl_nil, undStep, dig_nat m h]
      have e : (10 * 0 + ((48 + m : Nat) : Int) - 48) = (m : Int) := by omega
      rw [e]
    · have hm := Nat.mod_lt m (y := 10) (by omega)
      rw [digL_ge h, List.foldl_append, ih _ (by omega)]
      rw [List.foldl_cons, List.foldl_nil, undStep, dig_nat _ hm]
      have e : 10 * ((m / 10 : Nat) : Int) + ((48 + m % 10 : Nat) : Int) - 48 = (m : Int) := by omega
      rw [stepA _ _ _ e]
theorem digL_ne (m : Nat) : digL m ≠ [] := by
  rcases Nat.lt_or_ge m 10 with h | h
  · rw [digL_lt h]; simp
  · rw [digL_ge h]; simp
theorem digL_head (m : Nat) : (digL m).head? ≠ some 45 := by
  induction m using Nat.strongRecOn with
  | _ m ih =>
    rcases Nat.lt_or_ge m 10 with h | h
    · rw [digL_lt h, List.head?_cons]
      intro e
      injection e with e
      have := congrArg UInt8.toNat e
      rw [dig_nat m h] at this
      rw [show (45 : UInt8).toNat = 45 from rfl] at this
      omega
    · rw [digL_ge h, List.head?_append]
      have hn := ih (m / 10) (by omega)
      cases hd : (digL (m / 10)).head? with
      | none => exact absurd (List.head?_eq_none_iff.1 hd) (digL_ne _)
      | some x => rw [hd] at hn; exact hn
/-- The number that a text might be. -/
def undL (l : List UInt8) : Int := match l with
  | 45 :: r => wrap64 (-(r.foldl undStep 0))
  | l => l.foldl undStep 0
theorem undL_neg (r : List UInt8) : undL (45 :: r) = wrap64 (-(r.foldl undStep 0)) := rfl
theorem undL_pos (l : List UInt8) (h : l.head? ≠ some 45) : undL l = l.foldl undStep 0 := by
  unfold undL
  split
  · exact absurd rfl h
  · rfl
theorem undL_dec (z : Int) (h0 : -9223372036854775808 ≤ z) (h1 : z ≤ 9223372036854775807) : undL (decL z) = z := by
  unfold decL
  split
  · rw [undL_pos _ (digL_head _), und_dig, wrap64_id _ (by omega) (by omega)]
    omega
  · rw [undL_neg, und_dig]
    exact wrap64_neg z h0 h1 _ (by omega)
theorem und_fold_lo (l : List UInt8) : ∀ n : Int, -9223372036854775808 ≤ n ∧ n ≤ 9223372036854775807 → -9223372036854775808 ≤ l.foldl undStep n ∧ l.foldl undStep n ≤ 9223372036854775807 := by
  induction l with
  | nil => exact fun n h => h
  | cons c r ih => exact fun n h => ih _ (wrap64_lo _)
theorem undL_lo (l : List UInt8) : -9223372036854775808 ≤ undL l ∧ undL l ≤ 9223372036854775807 := by
  unfold undL
  split
  · exact wrap64_lo _
  · exact und_fold_lo _ _ (by omega)
theorem decL_ne (z : Int) : decL z ≠ [] := by
  unfold decL
  split
  · exact digL_ne _
  · simp
theorem decL_length (z : Int) (h0 : -9223372036854775808 ≤ z) (h1 : z ≤ 9223372036854775807) : (decL z).length ≤ 20 := by
  unfold decL
  split
  · have := digL_length 19 z.toNat (by omega) (by omega)
    omega
  · have := digL_length 19 (-z).toNat (by omega) (by omega)
    simp
    omega
/-- The number that is written so, if one is. -/
def undV (s : ByteArray) : Option Int := if decS (undL s.data.toList) = s then some (undL s.data.toList) else none
theorem undV_of {s : ByteArray} {z : Int} (h0 : -9223372036854775808 ≤ z) (h1 : z ≤ 9223372036854775807) (h : decS z = s) : undV s = some z := by
  have e : s.data.toList = decL z := by rw [← h]; rfl
  unfold undV
  rw [e, undL_dec z h0 h1, if_pos h]
theorem undV_none {s : ByteArray} (h : ∀ z : Int, -9223372036854775808 ≤ z → z ≤ 9223372036854775807 → decS z ≠ s) : undV s = none := by
  unfold undV
  rw [if_neg (h _ (undL_lo _).1 (undL_lo _).2)]
theorem undV_some {s : ByteArray} {z : Int} (h : undV s = some z) : decS z = s ∧ -9223372036854775808 ≤ z ∧ z ≤ 9223372036854775807 := by
  unfold undV at h
  split at h
  · injection h with h
    subst h
    exact ⟨by assumption, undL_lo _⟩
  · cases h
theorem undV_size {s : ByteArray} (h : s.size = 0 ∨ 20 < s.size) : undV s = none := by
  refine undV_none fun z h0 h1 e => ?_
  have h2 := decL_length z h0 h1
  have h3 := List.length_pos_iff.2 (decL_ne z)
  have h4 : s.size = (decL z).length := by rw [← e]; simp [decS, ByteArray.size]
  omega
end Go.Proofs.YtnkioabdpploeaaGreatDoor

set_option linter.unusedVariables false
set_option linter.unusedSimpArgs false
namespace Go.Proofs.YtnkioabdpploeaaGreatDoor
open Go.RowKit Go.Lib
theorem toList_ne {a b : ByteArray} (h : ¬ a = b) : (a.toList == b.toList) = false := by
  rw [beq_eq_false_iff_ne, ByteArray.toList_eq, ByteArray.toList_eq]
  exact fun e => h (bs_eq e)
theorem undF_enters : Enters Tryz.prog 69 := enters_of Tryz.func69 (by kernel_rfl) rfl
theorem und_form (n : Int) (c : UInt8) : wrap64 (wrap64 (wrap64 (10 * n) + (c.toNat : Int)) - 48) = undStep n c := by
  obtain ⟨k, hk⟩ := wrap64_mod (10 * n)
  obtain ⟨j, hj⟩ := wrap64_mod (wrap64 (10 * n) + (c.toNat : Int))
  unfold undStep
  exact wrap64_of _ _ (k + j) (by omega)
set_option maxRecDepth 100000 in
theorem undF_any (c : UInt8) (g : Nat) (n : Int) (w : World) (hB : Blk w g 3 #[.int .i64 n]) :
    Calls Tryz.prog 69 #[.int .u8 (c.toNat : Int), .pointer (some ⟨g, 0, none⟩)] w fun e w' => e = .returned (.bool true) ∧ w' = w.setCell ⟨g, 0, none⟩ (.int .i64 (undStep n c)) := by
  have c0 := hB.cell 0
  have f0 := hB.frozen 0
  simp only [List.getElem?_toArray, List.getElem?_cons_zero] at c0
  have hc := c.toNat_lt
  have hfm := Lib.hid (und_form n c)
  clear hB
  go_enter Tryz.func69, Tryz.ntmps69
  go_wp2
  go_ret
  exact ⟨rfl, by rw [← hfm.out]⟩
/-- The number's box behind each byte. -/
def undBox (w : World) (g : Nat) (s : ByteArray) (k : Nat) (wi : World) : Prop := Blk wi g 3 #[.int .i64 ((s.data.toList.take k).foldl undStep 0)] ∧ Below g w wi
theorem undEach_any (s : ByteArray) (g : Nat) (w w0 : World) (hs : s.size ≤ maxLen) (hB : Blk w g 3 #[.int .i64 0]) (hb : Below g w0 w) :
    Calls Tryz.prog 62 #[.string s, .func (.func 69) #[] #[.pointer (some ⟨g, 0, none⟩)]] w fun e w' => e = .returned (.bool true) ∧ Blk w' g 3 #[.int .i64 (s.data.toList.foldl undStep 0)] ∧ Below g w0 w' := by
  refine (each_inv 69 #[.pointer (some ⟨g, 0, none⟩)] s (fun k wi => undBox w0 g s k wi) (fun b w' => b = true ∧ undBox w0 g s s.size w') w hs undF_enters ⟨hB, hb⟩ ?_ ?_).mono ?_
  · rintro k wi hk ⟨hBi, hbi⟩
    refine (undF_any s[k] g _ wi hBi).mono ?_
    rintro e w1 ⟨rfl, rfl⟩
    refine ⟨true, rfl, fun _ => ⟨?_, hbi.setCell (Nat.le_refl _) _⟩, fun h => by cases h⟩
    have h := hBi.set_ 0 (.int .i64 (undStep ((s.data.toList.take k).foldl undStep 0) s[k]))
    have hkl : k < s.data.toList.length := by rw [Array.length_toList]; exact hk
    rw [List.take_succ_eq_append_getElem hkl, List.foldl_append]
    have he : s.data.toList[k] = s[k] := rfl
    rw [he]
    exact h
  · exact fun wi h => ⟨rfl, h⟩
  · rintro e w' ⟨b, rfl, rfl, h1, h2⟩
    rw [List.take_of_length_le (by rw [Array.length_toList]; exact Nat.le_refl _)] at h1
    exact ⟨rfl, h1, h2⟩
/-- What UnDec answers. -/
def undA (s : ByteArray) : Value := match undV s with
  | some z => .tuple #[.int .i64 z, .int .i64 0]
  | none => .tuple #[.int .i64 0, .int .i64 42]
theorem undA_some {s : ByteArray} {z : Int} (h : undV s = some z) : undA s = .tuple #[.int .i64 z, .int .i64 0] := by unfold undA; rw [h]
theorem undA_none {s : ByteArray} (h : undV s = none) : undA s = .tuple #[.int .i64 0, .int .i64 42] := by unfold undA; rw [h]
theorem undV_is (s : ByteArray) (z : Int) (h : undL s.data.toList = z) : undV s = if decS z = s then some z else none := by subst h; rfl
set_option maxRecDepth 100000 in
set_option maxHeartbeats 1000000 in
theorem undec_any (s : ByteArray) (w : World) (hs : s.size ≤ 1099511627776) :
    Calls Tryz.prog 47 #[.string s] w fun e w' => e = .returned (undA s) ∧ Below w.heap.size w w' := by
  by_cases h1 : s.size = 0 ∨ 20 < s.size
  · have hres : Hid (undA s = .tuple #[.int .i64 0, .int .i64 42]) := undA_none (undV_size h1)
    rcases h1 with h1 | h1
    · go_enter Tryz.func47, Tryz.ntmps47
      go_wp2_with fail
      all_goals go_ret2
      all_goals exact ⟨by rw [hres.out]; rfl, Below.refl _ _⟩
    · have h2 : ¬ ((s.size : Int) = 0) := by omega
      have h3 : (20 : Int) < (s.size : Int) := by omega
      go_enter Tryz.func47, Tryz.ntmps47
      go_wp2_with fail
      all_goals go_ret2
      all_goals exact ⟨by rw [hres.out]; rfl, Below.refl _ _⟩
  · have h2 : 0 < s.size := by omega
    have h3 : s.size ≤ 20 := by omega
    have h4 : ¬ ((s.size : Int) = 0) := by omega
    clear h1
    have h5 : ¬ (20 : Int) < (s.size : Int) := by omega
    have hix : (s[0]'h2).toNat < 256 := s[0].toNat_lt
    have hne : ¬ s = ByteArray.empty := fun e => by rw [e] at h2; exact absurd h2 (by decide)
    have hl0 : s.data.toList = s[0] :: (s.extract 1 s.size).data.toList := by
      rw [bytes_extract _ _ _ (Nat.le_refl _), List.take_of_length_le (by simp)]
      exact (List.drop_eq_getElem_cons (l := s.data.toList) (i := 0) (by rw [Array.length_toList]; exact h2)) ▸ (by simp [ByteArray.getElem_eq_getElem_data])
    have HL0 := Lib.hid hl0; clear hl0
    by_cases hm : s[0] = 45
    · have hmm : ((s[0].toNat : Int) == 45) = true := by rw [hm]; rfl
      have hx := fun W h1 h2 => undEach_any (s.extract 1 s.size) w.heap.size W w (by simp only [maxLen]; rw [ByteArray.size_extract]; omega) h1 h2
      have HX := hide hx; clear hx
      have hu : undL s.data.toList = wrap64 (-((s.extract 1 s.size).data.toList.foldl undStep 0)) := by rw [HL0.out, hm]; rfl
      have hlo := undL_lo s.data.toList
      obtain ⟨z, hz⟩ : ∃ z, Hid (undL s.data.toList = z) := ⟨_, Lib.hid rfl⟩
      obtain ⟨y, hy⟩ : ∃ y, Hid ((s.extract 1 s.size).data.toList.foldl undStep 0 = y) := ⟨_, Lib.hid rfl⟩
      rw [hz.out, hy.out] at hu
      rw [hz.out] at hlo
      rw [hy.out] at HX
      have hd := fun W => dec_any z W hlo.1 hlo.2
      have HD := hide hd; clear hd
      have HU := Lib.hid hu; have HLO := hide hlo; clear hu hlo
      go_enter Tryz.func47, Tryz.ntmps47
      go_wp2_with fail
      refine (unhide HX _ (Blk.new _ _ _) ((Below.refl _ _).alloc (Nat.le_refl _) _)).mono ?_
      rintro e w1 ⟨rfl, hB1, hb1⟩
      have c0 := hB1.cell 0
      have f0 := hB1.frozen 0
      simp only [List.getElem?_toArray, List.getElem?_cons_zero] at c0
      have H1 := hide (And.intro hB1 hb1); clear hB1 hb1
      go_wp2_with fail
      have hB2 : Blk (w1.setCell ⟨w.heap.size, 0, none⟩ (.int .i64 z)) w.heap.size 3 #[.int .i64 z] := (unhide H1).1.set_ 0 (.int .i64 z)
      have hb2 : Below w.heap.size w (w1.setCell ⟨w.heap.size, 0, none⟩ (.int .i64 z)) := (unhide H1).2.setCell (Nat.le_refl _) _
      rw [← HU.out]
      refine (unhide HD _).mono ?_
      rintro e w2 ⟨rfl, hb3⟩
      have hB3 := hB2.below hb3 hB2.lt
      have hb3' := hb2.trans (hb3.mono hb2.size)
      have k0 := hB3.cell 0
      simp only [List.getElem?_toArray, List.getElem?_cons_zero] at k0
      have H3 := hide hb3'; clear hB2 hb2 hB3 hb3 hb3' c0 f0 H1
      have huv := undV_is s z hz.out
      have HUV := Lib.hid huv; clear huv
      obtain ⟨D, HDe⟩ : ∃ D, Hid (decS z = D) := ⟨_, Lib.hid rfl⟩
      rw [HDe.out] at HUV ⊢
      by_cases he : D = s
      · have hres : Hid (undA s = .tuple #[.int .i64 z, .int .i64 0]) := undA_some (by rw [HUV.out, if_pos he])
        subst he
        go_wp2_with fail
        go_ret2
        exact ⟨by rw [hres.out]; rfl, unhide H3⟩
      · have hres : Hid (undA s = .tuple #[.int .i64 0, .int .i64 42]) := undA_none (by rw [HUV.out, if_neg he])
        have he' := toList_ne he
        go_wp2_with fail
        go_ret2
        exact ⟨by rw [hres.out]; rfl, unhide H3⟩
    · have hmm : ((s[0].toNat : Int) == 45) = false := by
        simp only [beq_eq_false_iff_ne]
        intro e
        exact hm (UInt8.toNat_inj.1 (by rw [show (45 : UInt8).toNat = 45 from rfl]; omega))
      have hx := fun W h1 h2 => undEach_any s w.heap.size W w (by simp only [maxLen]; omega) h1 h2
      have HX := hide hx; clear hx
      have hu : undL s.data.toList = s.data.toList.foldl undStep 0 := undL_pos _ (by rw [HL0.out, List.head?_cons]; exact fun e => hm (Option.some.inj e))
      have hlo := undL_lo s.data.toList
      obtain ⟨z, hz⟩ : ∃ z, Hid (undL s.data.toList = z) := ⟨_, Lib.hid rfl⟩
      rw [hz.out] at hu
      rw [hz.out] at hlo
      rw [← hu] at HX
      have hd := fun W => dec_any z W hlo.1 hlo.2
      have HD := hide hd; clear hd hu hlo
      go_enter Tryz.func47, Tryz.ntmps47
      go_wp2_with fail
      refine (unhide HX _ (Blk.new _ _ _) ((Below.refl _ _).alloc (Nat.le_refl _) _)).mono ?_
      rintro e w1 ⟨rfl, hB1, hb1⟩
      have c0 := hB1.cell 0
      simp only [List.getElem?_toArray, List.getElem?_cons_zero] at c0
      have H1 := hide (And.intro hB1 hb1); clear hB1 hb1
      go_wp2_with fail
      have hB2 := (unhide H1).1
      have hb2 := (unhide H1).2
      refine (unhide HD _).mono ?_
      rintro e w2 ⟨rfl, hb3⟩
      have hB3 := hB2.below hb3 hB2.lt
      have hb3' := hb2.trans (hb3.mono hb2.size)
      have k0 := hB3.cell 0
      simp only [List.getElem?_toArray, List.getElem?_cons_zero] at k0
      have H3 := hide hb3'; clear hB2 hb2 hB3 hb3 hb3' c0 H1
      have huv := undV_is s z hz.out
      have HUV := Lib.hid huv; clear huv
      obtain ⟨D, HDe⟩ : ∃ D, Hid (decS z = D) := ⟨_, Lib.hid rfl⟩
      rw [HDe.out] at HUV ⊢
      by_cases he : D = s
      · have hres : Hid (undA s = .tuple #[.int .i64 z, .int .i64 0]) := undA_some (by rw [HUV.out, if_pos he])
        subst he
        go_wp2_with fail
        go_ret2
        exact ⟨by rw [hres.out]; rfl, unhide H3⟩
      · have hres : Hid (undA s = .tuple #[.int .i64 0, .int .i64 42]) := undA_none (by rw [HUV.out, if_neg he])
        have he' := toList_ne he
        go_wp2_with fail
        go_ret2
        exact ⟨by rw [hres.out]; rfl, unhide H3⟩
end Go.Proofs.YtnkioabdpploeaaGreatDoor

set_option linter.unusedVariables false
set_option linter.unusedSimpArgs false
namespace Go.Proofs.YtnkioabdpploeaaGreatDoor
open Go.RowKit Go.Lib
end Go.Proofs.YtnkioabdpploeaaGreatDoor

set_option linter.unusedVariables false
set_option linter.unusedSimpArgs false
namespace Go.Proofs.YtnkioabdpploeaaGreatDoor
open Go.RowKit Go.Lib
end Go.Proofs.YtnkioabdpploeaaGreatDoor

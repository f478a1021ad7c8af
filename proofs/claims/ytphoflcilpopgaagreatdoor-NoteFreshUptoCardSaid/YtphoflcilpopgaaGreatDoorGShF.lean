/-
  Several texts in one: CONTRACTS of package sha: numbers as bytes, padding, the text of a state. | CONTRACTS of package sha: blocks of a text, a Hash that is written, the sum. | CONTRACTS of package sha: a Hash is made, written, summed. | CONTRACTS of package sha: a Hash is written, and summed. | CONTRACTS of package sha: the sum of a text, whole. | CONTRACTS of the document's answer for sha: padded, Sum.
-/
import Derived.Test.YtphoflcilpopgaaGreatDoorRows
import Derived.StillTailTactics
import Derived.Deep.RegionHeld3
import Derived.Test.YtphoflcilpopgaaGreatDoorGBase
import Derived.Test.YtphoflcilpopgaaGreatDoorGShA
set_option linter.unusedVariables false
set_option linter.unusedSimpArgs false
namespace Go.Proofs.YtphoflcilpopgaaGreatDoor
open Go.RowKit Go.Lib
/-- A number as so many bytes, the highest first. -/
def beBytes (z : Int) : Nat → List UInt8
  | 0 => []
  | n + 1 => (z / 2 ^ (8 * n) % 256).toNat.toUInt8 :: beBytes z n
theorem beBytes_length (z : Int) (n : Nat) : (beBytes z n).length = n := by
  induction n with
  | zero => rfl
  | succ n ih => simp [beBytes, ih]
set_option maxRecDepth 100000 in
set_option maxHeartbeats 400000 in
theorem put_any (base : Nat) (v : Value) (bs : List UInt8) (z : Int) (size : Int) (w : World) (hown : OwnB w base v bs) (hz0 : 0 ≤ z) (hz1 : z < 18446744073709551616) (hs0 : 0 ≤ size) (hs : size ≤ 8) (h47 : bs.length + 8 ≤ 140737488355328) (hbase : base ≤ w.heap.size) :
    Calls Tryz.prog 102 #[v, .int .u64 z, .int .i64 size] w fun e w' => ∃ v', e = .returned v' ∧ OwnB w' base v' (bs ++ beBytes z size.toNat) ∧ Below base w w' := by
  obtain ⟨n, rfl⟩ := Int.eq_ofNat_of_zero_le hs0
  rw [Int.toNat_natCast]
  have hn : n ≤ 8 := by omega
  clear hs hs0
  have Hown := hide hown; clear hown
  go_enter Tryz.func102, Tryz.ntmps102
  go_wp2
  go_loopw [0, 2] (fun b i wr => ∃ (r : Nat) (c : List UInt8), i = .int .i64 ((r : Int) - 1) ∧ OwnB wr base b c ∧ c ++ beBytes z r = bs ++ beBytes z n ∧ r ≤ n ∧ c.length + r = bs.length + n ∧ Below base w wr ∧ base ≤ wr.heap.size) (fun _ i _ => ((intOf i) + 1).toNat)
  case atStart => exact ⟨n, bs, rfl, unhide Hown, rfl, Nat.le_refl _, rfl, Below.refl _ _, hbase⟩
  case round =>
    obtain ⟨r, c, rfl, hO, hc, hr, hl, hb, hbs⟩ := hrel
    rcases Nat.eq_zero_or_pos r with h0 | h0
    · subst h0
      have Hx := hide (And.intro hO (And.intro hc hb)); clear hO hc hb hl
      go_wp2
      go_ret
      obtain ⟨hO, hc, hb⟩ := unhide Hx
      exact ⟨_, rfl, by rw [← hc]; simpa [beBytes] using hO, hb⟩
    · obtain ⟨m, rfl⟩ : ∃ m, r = m + 1 := ⟨r - 1, by omega⟩
      rw [show (((m + 1 : Nat) : Int) - 1) = (m : Int) from by omega]
      have Hc := hide (And.intro hc hl)
      have hcl : c.length + 1 ≤ 140737488355328 := by omega
      clear hc hl h0
      have Hb := hide hb; clear hb
      go_wp2_with (first | (at_builtin; go_loud (refine wpList_app1 wr rfl (.tmp 13) (.tmp 19) rfl hO rfl rfl (Int.emod_nonneg _ (by decide)) (Int.emod_lt_of_pos _ (by decide)) hcl hbs ?_); intro v' w' hO' hg hat; have HO' := hide (And.intro hO' (And.intro hg hat)); clear hO' hg hat))
      go_roundw
      case rel =>
        obtain ⟨hO', hg, hat⟩ := unhide HO'
        obtain ⟨hc, hl⟩ := unhide Hc
        refine ⟨m, _, rfl, hO', ?_, by omega, by simp; omega, ?_, ?_⟩
        · rw [← hc, beBytes]; simp
        · exact ((unhide Hb).alloc hbs _).grown hg (by simp; omega) (fun k hk => (hO.lt k hk).1)
        · have := hg.size; simp at this; omega
      case measure => simp [intOf]
/-- The bytes of the words. -/
def out8 (v : List Int) : List UInt8 := v.flatMap fun x => beBytes x 4
theorem out8_length (v : List Int) : (out8 v).length = 4 * v.length := by
  induction v with
  | nil => rfl
  | cons x v ih => simp [out8, beBytes_length] at ih ⊢; omega
set_option maxRecDepth 100000 in
set_option maxHeartbeats 400000 in
theorem text_any (T : TypeId) (g : Nat) (v : List Int) (rest : List Value) (w : World) (hv : v.length = 8) (hu : U32 v) (hG : Blk w g T (st8 v ++ rest).toArray) :
    Calls Tryz.prog 94 #[.pointer (some ⟨g, 0, none⟩)] w fun e w' => e = .returned (.string ⟨(out8 v).toArray⟩) ∧ Below w.heap.size w w' := by
  have glt := hG.lt
  have Hv := Lib.hid hv; clear hv
  obtain ⟨i0, hi0, hz0, hz1, hz2⟩ := info_parts byteInfo
  go_enter Tryz.func94, Tryz.ntmps94
  have hmk : ∀ W, (Instr.makeSlice 81 (.int .i64 0) (.int .i64 32)).run Tryz.prog W = .ok (.slice (some ⟨W.heap.size, 0, none⟩) 0 32) (W.alloc (.cells #[.int .u8 0, .int .u8 0, .int .u8 0, .int .u8 0, .int .u8 0, .int .u8 0, .int .u8 0, .int .u8 0, .int .u8 0, .int .u8 0, .int .u8 0, .int .u8 0, .int .u8 0, .int .u8 0, .int .u8 0, .int .u8 0, .int .u8 0, .int .u8 0, .int .u8 0, .int .u8 0, .int .u8 0, .int .u8 0, .int .u8 0, .int .u8 0, .int .u8 0, .int .u8 0, .int .u8 0, .int .u8 0, .int .u8 0, .int .u8 0, .int .u8 0, .int .u8 0] 5)) := fun _ => by kernel_rfl
  go_wp2
  clear hmk
  go_loopw [3, 8] (fun b i wr => ∃ k : Nat, k ≤ 8 ∧ i = .int .i64 k ∧ OwnB wr w.heap.size b (out8 (v.take k)) ∧ Below w.heap.size w wr) (fun _ i _ => 8 - (intOf i).toNat)
  case atStart =>
    exact ⟨0, by omega, rfl, OwnB.of_row (by simpa [out8, byteCells] using World.ownsRow_made w _ 32 (Nat.le_refl _) (by decide) rfl), (Below.refl _ _).alloc (Nat.le_refl _) _⟩
  case round =>
    obtain ⟨k, hk, rfl, hO, hb⟩ := hrel
    by_cases hlt : k < 8
    · have hvk : k < v.length := by rw [Hv.out]; exact hlt
      have c1 := ((hG.below hb glt).cell k)
      rw [show (st8 v ++ rest).toArray[k]? = some (Value.int .u32 (v.getD k 0)) from by simp [st8, List.getElem?_append, hvk, List.getD]] at c1
      obtain ⟨x0, x1⟩ := hu.at_ k
      generalize hx : v.getD k 0 = x at *
      have Hx := hide (And.intro hx (And.intro hO hb)); clear hx hO hb
      have hG' := hide hG
      go_wp2_with fail
      refine (put_any w.heap.size _ _ x 4 wr (unhide Hx).2.1 x0 (by omega) (by omega) (by omega) (by rw [out8_length]; simp; omega) (unhide Hx).2.2.size).mono ?_
      rintro e w1 ⟨v1, rfl, hO1, hb1⟩
      have Hy := hide (And.intro hO1 hb1); clear hO1 hb1
      go_wp2
      go_roundw
      case rel =>
        obtain ⟨hO1, hb1⟩ := unhide Hy
        obtain ⟨hx, hO, hb⟩ := unhide Hx
        refine ⟨k + 1, by omega, by go_num, ?_, hb.trans hb1⟩
        have e : out8 (v.take (k + 1)) = out8 (v.take k) ++ beBytes x 4 := by
          have hxk : v[k] = x := by rw [← hx]; simp [List.getD, hvk]
          unfold out8
          rw [List.take_succ_eq_append_getElem hvk, List.flatMap_append, hxk]
          simp
        rw [e]; exact hO1
      case measure => simp [intOf]; omega
    · have hk8 : 8 ≤ k := by omega
      have hcv := conv_own hO
      have Hx := hide hb; clear hb hO
      go_wp2
      go_ret
      exact ⟨ret_str (by rw [List.take_of_length_le (by rw [Hv.out]; omega)]), unhide Hx⟩
/-- What is put behind a text of n bytes. -/
def padB (n : Nat) : List UInt8 := 128 :: (List.replicate ((119 - n % 64) % 64) 0 ++ beBytes (8 * (n : Int)) 8)
theorem padB_length (n : Nat) : (padB n).length = 9 + (119 - n % 64) % 64 := by simp [padB, beBytes_length]; omega
def slen : Value → Nat
  | .slice _ n _ => n
  | _ => 0
theorem OwnB.slen {w : World} {base : Nat} {v : Value} {bs : List UInt8} (h : OwnB w base v bs) : slen v = bs.length := by
  rcases h.form with ⟨rfl, rfl⟩ | ⟨g, cap, rfl, _⟩ <;> rfl
theorem OwnB.at_row {w : World} {base g cap n : Nat} {bs : List UInt8} (h : OwnB w base (.slice (some ⟨g, 0, none⟩) n cap) bs) : n = bs.length ∧ base ≤ g := by
  rcases h with ⟨hv, _⟩ | ⟨g', cap', _, _, hv, hb, _⟩
  · cases hv
  · injection hv with h1 h2 h3
    injection h1 with h1
    injection h1 with h1
    exact ⟨h2, by omega⟩
set_option maxRecDepth 100000 in
set_option maxHeartbeats 400000 in
theorem padding_any (n : Nat) (w : World) (hn : n ≤ 1125899906842624) :
    Calls Tryz.prog 93 #[.int .i64 n] w fun e w' => e = .returned (.string ⟨(padB n).toArray⟩) ∧ Below w.heap.size w w' := by
  obtain ⟨k, Hk⟩ : ∃ k, Hid (k = (119 - n % 64) % 64) := ⟨_, rfl⟩
  have hk0 : k < 64 := by have := Hk.out; omega
  have HP : Hid (padB n = 128 :: (List.replicate k 0 ++ beBytes (8 * (n : Int)) 8)) := by unfold padB; rw [Hk.out]; rfl
  go_enter Tryz.func93, Tryz.ntmps93
  go_wp2
  go_loopw [3] (fun b wr => ∃ (j g cap : Nat), j ≤ k ∧ b = .slice (some ⟨g, 0, none⟩) (j + 1) cap ∧ OwnB wr w.heap.size b (128 :: List.replicate j 0) ∧ Below w.heap.size w wr) (fun b _ => 70 - slen b)
  case atStart =>
    refine ⟨0, w.heap.size, 1, by omega, rfl, ?_, (Below.refl _ _).alloc (Nat.le_refl _) _⟩
    exact OwnB.of_row (by simpa [byteCells] using World.ownsRow_lit (base := w.heap.size) (e := 5) (size := 1) w #[Value.int .u8 128] 1 (Nat.le_refl _) (by decide) rfl)
  case round =>
    obtain ⟨j, g, cap, hj, rfl, hO, hb⟩ := hrel
    have Hx := hide (And.intro hO hb); clear hO hb
    rcases Nat.lt_or_ge j k with hlt | hge
    · have htest : (((n : Int) + ((j : Int) + 1)) % 64 == 56) = false := by
        have := Hk.out
        simp
        omega
      have htest2 : (((n : Int) + ((j : Int) + 1)) % 64 != 56) = true := by
        have := Hk.out
        simp
        omega
      go_wp2_with (first | (at_builtin; refine wpList_app1 wr rfl (.tmp 11) (.tmp 12) rfl (unhide Hx).1 rfl rfl (by omega) (by omega) (by simp; omega) (unhide Hx).2.size ?_; intro v' w' hO' hg hat; have HO' := hide (And.intro hO' (And.intro hg hat)); clear hO' hg hat))
      go_roundw
      case rel =>
        obtain ⟨hO', hg, hat⟩ := unhide HO'
        obtain ⟨hO, hb⟩ := unhide Hx
        have e : (128 : UInt8) :: List.replicate j 0 ++ [(0 : Int).toNat.toUInt8] = 128 :: List.replicate (j + 1) 0 := by rw [List.replicate_succ']; rfl
        rw [e] at hO'
        rcases hO'.form with ⟨_, h⟩ | ⟨g', cap', rfl, _, _, _⟩
        · cases h
        · have hl : ((128 : UInt8) :: List.replicate (j + 1) 0).length = j + 1 + 1 := by simp
          rw [hl] at hO' ⊢
          exact ⟨j + 1, g', cap', by omega, rfl, hO', (hb.alloc hb.size _).grown hg (by simp; have := hb.size; omega) (fun k hk => (hO.lt k hk).1)⟩
      case measure =>
        have hs := (unhide HO').1.slen
        simp only [List.length_append, List.length_cons, List.length_replicate, List.length_nil] at hs
        show 70 - slen v' < 70 - (j + 1)
        omega
    · obtain rfl : j = k := by omega
      have htest2 : (((n : Int) + ((j : Int) + 1)) % 64 != 56) = false := by
        have := Hk.out
        simp
        omega
      go_wp2_with fail
      refine (put_any w.heap.size _ _ _ 8 wr (unhide Hx).1 (by omega) (by omega) (by omega) (by omega) (by simp; omega) (unhide Hx).2.size).mono ?_
      rintro e w1 ⟨v1, rfl, hO1, hb1⟩
      have hcv := conv_own hO1
      have Hy := hide (And.intro hO1 hb1); clear hO1 hb1
      go_wp2
      go_ret
      exact ⟨ret_str (by rw [HP.out]), (unhide Hx).2.trans (unhide Hy).2⟩
end Go.Proofs.YtphoflcilpopgaaGreatDoor

set_option linter.unusedVariables false
set_option linter.unusedSimpArgs false
namespace Go.Proofs.YtphoflcilpopgaaGreatDoor
open Go.RowKit Go.Lib
/-- The eight words behind n blocks. -/
def stN (v : List Int) : Nat → List UInt8 → List Int
  | 0, _ => v
  | n + 1, m => stN (comp v (m.take 64)) n (m.drop 64)
theorem comp_length {v : List Int} (h : v.length = 8) (b : List UInt8) : (comp v b).length = 8 := by simp [comp, h, rds_length]
theorem comp_U32 (v : List Int) (b : List UInt8) : U32 (comp v b) := by
  intro x hx
  obtain ⟨i, hi, rfl⟩ := List.mem_iff_getElem.1 hx
  simp only [comp, List.getElem_zipWith]
  omega
theorem stN_length {v : List Int} (h : v.length = 8) : ∀ (n : Nat) (m : List UInt8), (stN v n m).length = 8 := by
  intro n
  induction n generalizing v with
  | zero => intro m; exact h
  | succ n ih => intro m; exact ih (comp_length h _) _
theorem stN_U32 {v : List Int} (h : U32 v) : ∀ (n : Nat) (m : List UInt8), U32 (stN v n m) := by
  intro n
  induction n generalizing v with
  | zero => intro m; exact h
  | succ n ih => intro m; exact ih (comp_U32 _ _) _
theorem stN_add (v : List Int) (a b : Nat) (m : List UInt8) : stN v (a + b) m = stN (stN v a m) b (m.drop (64 * a)) := by
  induction a generalizing v m with
  | zero => simp [stN]
  | succ a ih =>
    rw [show a + 1 + b = (a + b) + 1 from by omega]
    simp only [stN]
    rw [ih, List.drop_drop, show 64 + 64 * a = 64 * (a + 1) from by omega]
theorem stN_take (v : List Int) (n : Nat) (m : List UInt8) (k : Nat) (h : 64 * n ≤ k) : stN v n (m.take k) = stN v n m := by
  induction n generalizing v m k with
  | zero => rfl
  | succ n ih =>
    simp only [stN]
    rw [List.take_take, show min 64 k = 64 from by omega, List.drop_take, ih _ _ _ (by omega)]
theorem stN_append (v : List Int) (n : Nat) (m r : List UInt8) (h : 64 * n ≤ m.length) : stN v n (m ++ r) = stN v n m := by
  have e : (m ++ r).take m.length = m := by simp
  rw [← stN_take v n (m ++ r) m.length h, e]
theorem grown_trans' {a b c : World} {row : Option Nat} (h : a.grownBy b row) (k : b.grownBy c row) : a.grownBy c row :=
  ⟨k.os.trans h.os, k.tape.trans h.tape, k.output.trans h.output, Nat.le_trans h.size k.size, fun i hi hn => (k.block i (Nat.lt_of_lt_of_le hi h.size) hn).trans (h.block i hi hn)⟩
theorem extr64 (s : ByteArray) (k : Nat) (h : 64 * (k + 1) ≤ s.size) (d : Nat) (hd : d = s.size - 64 * k) : (s.extract (64 * k) s.size).extract 64 d = s.extract (64 * (k + 1)) s.size := by
  rw [ByteArray.extract_extract, hd]
  congr 1 <;> omega
theorem take_enters : Enters Tryz.prog 90 := enters_of Tryz.func90 (by kernel_rfl) rfl
set_option maxRecDepth 100000 in
set_option maxHeartbeats 400000 in
theorem blocks_any (T : TypeId) (g : Nat) (v : List Int) (rest : List Value) (s : ByteArray) (w : World) (hs : s.size ≤ maxLen) (hv : v.length = 8) (hu : U32 v) (htab : TabOk w) (hg : 4 < g)
    (hG : Blk w g T (st8 v ++ rest).toArray) :
    Calls Tryz.prog 91 #[.string s, .func (.func 90) #[.pointer (some ⟨g, 0, none⟩)] #[]] w
      fun e w' => e = .returned (.string (s.extract (64 * (s.size / 64)) s.size)) ∧ w.grownBy w' (some g) ∧ Blk w' g T (st8 (stN v (s.size / 64) s.data.toList) ++ rest).toArray := by
  have hs' : s.size ≤ 9223372036854775807 := by simpa [maxLen] using hs
  have Hx0 := hide (And.intro hv (And.intro hu (And.intro htab hG))); clear hv hu htab hG
  go_enter Tryz.func91, Tryz.ntmps91
  go_wp2
  go_loopw [0] (fun x wr => ∃ k : Nat, 64 * k ≤ s.size ∧ x = .string (s.extract (64 * k) s.size) ∧ w.grownBy wr (some g) ∧ Blk wr g T (st8 (stN v k s.data.toList) ++ rest).toArray) (fun x _ => strSize x)
  case atStart => exact ⟨0, by omega, by simp, World.grownBy.refl _ _, (unhide Hx0).2.2.2⟩
  case round =>
    obtain ⟨k, hk, rfl, hgr, hB⟩ := hrel
    by_cases hlt : 64 * (k + 1) ≤ s.size
    · have Hx := hide (And.intro hgr hB); clear hgr hB
      go_wp2_with fail
      have hes : ((s.extract (64 * k) s.size).extract 0 64).size = 64 := by simp; omega
      have hes2 : ((s.extract (64 * k) s.size).extract 0 64).data.toList = (s.data.toList.drop (64 * k)).take 64 := by
        rw [extract_list _ _ _ (by simp; omega), extract_list _ _ _ (Nat.le_refl _)]
        simp
        rw [List.take_take, show min 64 (s.size - 64 * k) = 64 from by omega]
      have Hes := Lib.hid hes; have Hes2 := Lib.hid hes2; clear hes hes2
      obtain ⟨hv, hu, htab, hG⟩ := unhide Hx0
      refine (take_any T g (stN v k s.data.toList) rest _ wr Hes.out (stN_length hv _ _) (stN_U32 hu _ _) (htab.grown (unhide Hx).1 (by omega)) hg (unhide Hx).2).mono ?_
      clear hv hu htab hG
      rintro e w1 ⟨rfl, hgr1, hB1⟩
      have Hy := hide (And.intro hgr1 hB1); clear hgr1 hB1
      go_wp2
      go_roundw
      case rel =>
        obtain ⟨hgr, hB⟩ := unhide Hx
        obtain ⟨hgr1, hB1⟩ := unhide Hy
        refine ⟨k + 1, hlt, ?_, grown_trans' hgr hgr1, ?_⟩
        · rw [extr64 s k hlt _ rfl]
        · rw [stN_add, show stN (stN v k s.data.toList) 1 (s.data.toList.drop (64 * k)) = comp (stN v k s.data.toList) ((s.data.toList.drop (64 * k)).take 64) from rfl, ← Hes2.out]
          exact hB1
      case measure => simp [strSize]; omega
    · have hq : s.size / 64 = k := by omega
      have Hx := hide (And.intro hgr (And.intro hB hq)); clear hgr hB hq
      go_wp2
      go_ret
      obtain ⟨hgr, hB, hq⟩ := unhide Hx
      rw [hq]
      exact ⟨rfl, hgr, hB⟩
end Go.Proofs.YtphoflcilpopgaaGreatDoor

set_option linter.unusedVariables false
set_option linter.unusedSimpArgs false
namespace Go.Proofs.YtphoflcilpopgaaGreatDoor
open Go.RowKit Go.Lib
def shaInit : List Int := [1779033703, 3144134277, 1013904242, 2773480762, 1359893119, 2600822924, 528734635, 1541459225]
theorem shaInit_U32 : U32 shaInit := by
  intro x hx
  simp only [shaInit, List.mem_cons, List.not_mem_nil, or_false] at hx
  rcases hx with rfl | rfl | rfl | rfl | rfl | rfl | rfl | rfl <;> decide
def BeginOk (w : World) : Prop := ∀ i, i < 8 → w.cell? ⟨2, i, none⟩ = some (.int .u32 (shaInit.getD i 0))
theorem BeginOk.lt {w : World} (h : BeginOk w) : 2 < w.heap.size := World.block_lt_of_cell? w _ (h 0 (by omega))
theorem BeginOk.below {B : Nat} {w w' : World} (h : BeginOk w) (hb : Below B w w') (hB : 2 < B) : BeginOk w' :=
  fun i hi => (hb.cell (p := ⟨2, i, none⟩) hB).trans (h i hi)
/-- A Hash in block g that has taken m. -/
def hashCells (v : List Int) (rest : List UInt8) (n : Nat) : Array Value := (st8 v ++ (byteCells rest ++ [Value.int .i64 n])).toArray
def IsHash (w : World) (g : Nat) (m : List UInt8) : Prop :=
  ∃ rest : List UInt8, rest.length = 64 ∧ rest.take (m.length % 64) = m.drop (64 * (m.length / 64)) ∧ Blk w g 134 (hashCells (stN shaInit (m.length / 64) m) rest m.length)
theorem hash_n (v : List Int) (rest : List UInt8) (n : Nat) (hv : v.length = 8) (hr : rest.length = 64) : (hashCells v rest n)[72]? = some (.int .i64 n) := by
  simp [hashCells, st8, List.getElem?_append, hv, hr, byteCells]
theorem hash_rest (v : List Int) (rest : List UInt8) (n : Nat) (hv : v.length = 8) (hr : rest.length = 64) (j : Nat) (hj : j < 64) : (hashCells v rest n)[8 + j]? = some (.int .u8 ((rest[j]'(by omega)).toNat : Int)) := by
  simp [hashCells, st8, List.getElem?_append, hv, hr, byteCells, hj]
theorem hash_size (v : List Int) (rest : List UInt8) (n : Nat) (hv : v.length = 8) (hr : rest.length = 64) : (hashCells v rest n).size = 73 := by
  simp [hashCells, st8, hv, hr, byteCells]
set_option maxRecDepth 100000 in
set_option maxHeartbeats 400000 in
theorem hash_zero (w : World) : (zeroValue 134).run Tryz.prog w = .ok (.agg #[.int .u32 0, .int .u32 0, .int .u32 0, .int .u32 0, .int .u32 0, .int .u32 0, .int .u32 0, .int .u32 0, .int .u8 0, .int .u8 0, .int .u8 0, .int .u8 0, .int .u8 0, .int .u8 0, .int .u8 0, .int .u8 0, .int .u8 0, .int .u8 0, .int .u8 0, .int .u8 0, .int .u8 0, .int .u8 0, .int .u8 0, .int .u8 0, .int .u8 0, .int .u8 0, .int .u8 0, .int .u8 0, .int .u8 0, .int .u8 0, .int .u8 0, .int .u8 0, .int .u8 0, .int .u8 0, .int .u8 0, .int .u8 0, .int .u8 0, .int .u8 0, .int .u8 0, .int .u8 0, .int .u8 0, .int .u8 0, .int .u8 0, .int .u8 0, .int .u8 0, .int .u8 0, .int .u8 0, .int .u8 0, .int .u8 0, .int .u8 0, .int .u8 0, .int .u8 0, .int .u8 0, .int .u8 0, .int .u8 0, .int .u8 0, .int .u8 0, .int .u8 0, .int .u8 0, .int .u8 0, .int .u8 0, .int .u8 0, .int .u8 0, .int .u8 0, .int .u8 0, .int .u8 0, .int .u8 0, .int .u8 0, .int .u8 0, .int .u8 0, .int .u8 0, .int .u8 0, .int .i64 0]) w := by kernel_rfl
set_option maxRecDepth 100000 in
set_option maxHeartbeats 400000 in
theorem new_any (w : World) (hbg : BeginOk w) : Calls Tryz.prog 77 #[] w fun e w' => e = .returned (.pointer (some ⟨w.heap.size, 0, none⟩)) ∧ IsHash w' w.heap.size [] ∧ Below w.heap.size w w' := by
  have d0 := hbg 0 (by omega)
  have d1 := hbg 1 (by omega)
  have d2 := hbg 2 (by omega)
  have d3 := hbg 3 (by omega)
  have d4 := hbg 4 (by omega)
  have d5 := hbg 5 (by omega)
  have d6 := hbg 6 (by omega)
  have d7 := hbg 7 (by omega)
  clear hbg
  simp [shaInit] at d0 d1 d2 d3 d4 d5 d6 d7
  have hz := hash_zero w
  go_enter Tryz.func77, Tryz.ntmps77
  go_wp2
  go_ret
  refine ⟨rfl, ⟨List.replicate 64 0, by simp, by simp, ?_⟩, (Below.refl _ _).alloc (Nat.le_refl _) _⟩
  have h : ∀ X, X = hashCells shaInit (List.replicate 64 0) 0 → Blk (w.alloc (.cells X 134)) w.heap.size 134 (hashCells shaInit (List.replicate 64 0) 0) := by
    rintro X rfl
    exact Blk.new _ _ _
  exact h _ (by kernel_rfl)
set_option maxRecDepth 100000 in
set_option maxHeartbeats 400000 in
theorem held_any (g : Nat) (m : List UInt8) (w : World) (hm : m.length ≤ 1125899906842624) (hH : IsHash w g m) : Calls Tryz.prog 89 #[.pointer (some ⟨g, 0, none⟩)] w fun e w' => e = .returned (.int .i64 ((m.length % 64 : Nat) : Int)) ∧ w = w' := by
  obtain ⟨rest, hr, _, hB⟩ := hH
  have c := (hB.cell 72).trans (hash_n _ _ _ (stN_length rfl _ _) hr)
  clear hB hr
  go_enter Tryz.func89, Tryz.ntmps89
  go_wp2
  go_ret
  exact ⟨ret_int (by omega), rfl⟩
set_option maxRecDepth 100000 in
set_option maxHeartbeats 400000 in
theorem copy_any (g : Nat) (m : List UInt8) (w : World) (hH : IsHash w g m) : Calls Tryz.prog 92 #[.pointer (some ⟨g, 0, none⟩)] w fun e w' => e = .returned (.pointer (some ⟨w.heap.size, 0, none⟩)) ∧ IsHash w' w.heap.size m ∧ Below w.heap.size w w' := by
  obtain ⟨rest, hr, ht, hB⟩ := hH
  have hsz := hash_size (stN shaInit (m.length / 64) m) rest m.length (stN_length rfl _ _) hr
  have hone : (hashCells (stN shaInit (m.length / 64) m) rest m.length).all (·.oneCell') = true := by
    rw [Array.all_eq_true]
    intro i hi
    have hm := Array.getElem_mem (xs := hashCells (stN shaInit (m.length / 64) m) rest m.length) hi
    generalize (hashCells (stN shaInit (m.length / 64) m) rest m.length)[i] = X at hm
    simp only [hashCells, st8, byteCells, List.mem_toArray, List.mem_append, List.mem_map, List.mem_cons, List.not_mem_nil, or_false] at hm
    rcases hm with ⟨x, _, h⟩ | ⟨x, _, h⟩ | h
    · rw [← h]; rfl
    · rw [← h]; rfl
    · rw [h]; rfl
  have glt := hB.lt
  obtain ⟨C, HC⟩ : ∃ C, Hid (hashCells (stN shaInit (m.length / 64) m) rest m.length = C) := ⟨_, rfl⟩
  rw [HC.out] at hB hsz hone
  have ci : (Tryz.prog.info? 134).map (·.size) = some 73 := by kernel_rfl
  have hi : (Tryz.prog.info? 134).map (·.size) = some C.size := ci.trans (by rw [hsz])
  have Hi := hide hi; clear ci hi
  have Hsz := Lib.hid hsz; clear hsz
  have HB := hide hB; clear hB
  have Hrt := hide (And.intro hr ht); clear hr ht
  have hz := hash_zero w
  go_enter Tryz.func92, Tryz.ntmps92
  go_wp2_with (first | (refine wpList_load_row rfl 134 (.tmp 5) rfl g rfl 134 C (0, 0) _ (unhide HB) Tryz.underlying134 rfl (unhide Hi) ?_) | (refine wpList_store_row rfl 134 (.tmp 3) (.tmp 6) rfl w.heap.size C rfl rfl 134 _ (heap_alloc_new w _) (unhide Hi) (by rw [Hsz.out]; kernel_rfl) hone ?_))
  go_ret
  obtain ⟨hr, ht⟩ := unhide Hrt
  refine ⟨rfl, ⟨rest, hr, ht, ?_⟩, ((Below.refl _ _).alloc (Nat.le_refl _) _).setRow (Nat.le_refl _) _⟩
  rw [HC.out]
  exact setRow_heap _ _ _ _ _ _ (heap_alloc_new w _)
end Go.Proofs.YtphoflcilpopgaaGreatDoor

set_option linter.unusedVariables false
set_option linter.unusedSimpArgs false
namespace Go.Proofs.YtphoflcilpopgaaGreatDoor
open Go.RowKit Go.Lib
theorem absorb_A (v : List Int) (m p : List UInt8) (h : m.length % 64 = 0) :
    stN (stN v (m.length / 64) m) (p.length / 64) p = stN v ((m ++ p).length / 64) (m ++ p) ∧ (m ++ p).length % 64 = p.length % 64 ∧ (m ++ p).drop (64 * ((m ++ p).length / 64)) = p.drop (64 * (p.length / 64)) := by
  have hm : m.length = 64 * (m.length / 64) := by omega
  have hl : (m ++ p).length / 64 = m.length / 64 + p.length / 64 := by simp; omega
  refine ⟨?_, by simp; omega, ?_⟩
  · rw [hl, stN_add, stN_append v _ m p (by omega), List.drop_append_of_le_length (by omega), List.drop_eq_nil_of_le (by omega), List.nil_append]
  · rw [hl, List.drop_append, List.drop_eq_nil_of_le (by omega), List.nil_append]
    congr 1
    omega
theorem absorb_B (v : List Int) (m p : List UInt8) (r : Nat) (hr : m.length % 64 = r) (h0 : 0 < r) (hp : 64 - r ≤ p.length) :
    stN (comp (stN v (m.length / 64) m) (m.drop (64 * (m.length / 64)) ++ p.take (64 - r))) ((p.length - (64 - r)) / 64) (p.drop (64 - r)) = stN v ((m ++ p).length / 64) (m ++ p) ∧
      (m ++ p).length % 64 = (p.length - (64 - r)) % 64 ∧ (m ++ p).drop (64 * ((m ++ p).length / 64)) = (p.drop (64 - r)).drop (64 * ((p.length - (64 - r)) / 64)) := by
  have hl : (m ++ p).length / 64 = m.length / 64 + (1 + (p.length - (64 - r)) / 64) := by simp; omega
  have hd : (m ++ p).drop (64 * (m.length / 64)) = m.drop (64 * (m.length / 64)) ++ p := List.drop_append_of_le_length (by omega)
  have hdl : (m.drop (64 * (m.length / 64))).length = r := by simp; omega
  refine ⟨?_, by simp; omega, ?_⟩
  · rw [hl, stN_add, stN_append v _ m p (by omega), hd, stN_add]
    have h1 : stN (stN v (m.length / 64) m) 1 (m.drop (64 * (m.length / 64)) ++ p) = comp (stN v (m.length / 64) m) (m.drop (64 * (m.length / 64)) ++ p.take (64 - r)) := by
      show comp _ ((m.drop (64 * (m.length / 64)) ++ p).take 64) = _
      rw [List.take_append, hdl, List.take_of_length_le (by omega)]
    rw [h1]
    have h2 : (m.drop (64 * (m.length / 64)) ++ p).drop (64 * 1) = p.drop (64 - r) := by
      rw [List.drop_append, hdl, List.drop_eq_nil_of_le (by omega), List.nil_append]
    rw [h2]
  · rw [hl, show 64 * (m.length / 64 + (1 + (p.length - (64 - r)) / 64)) = 64 * (m.length / 64) + (64 + 64 * ((p.length - (64 - r)) / 64)) from by omega, ← List.drop_drop, hd, ← List.drop_drop]
    have h2 : (m.drop (64 * (m.length / 64)) ++ p).drop 64 = p.drop (64 - r) := by
      rw [List.drop_append, hdl, List.drop_eq_nil_of_le (by omega), List.nil_append]
    rw [h2]
/-- The cells of a Hash behind a copy into its rest. -/
theorem hash_copy (v : List Int) (rest : List UInt8) (n : Nat) (hv : v.length = 8) (hr : rest.length = 64) (o : Nat) (x : List UInt8) (hx : o + x.length ≤ 64) :
    ((hashCells v rest n).toList.take (8 + o) ++ byteCells x ++ (hashCells v rest n).toList.drop (8 + o + x.length)).toArray = hashCells v (rest.take o ++ x ++ rest.drop (o + x.length)) n := by
  have h8 : (st8 v).length = 8 := by simp [st8, hv]
  have hb : (byteCells rest).length = 64 := by rw [byteCells_length, hr]
  apply Array.ext'
  simp only [hashCells]
  rw [List.take_append, h8, List.take_of_length_le (by omega), show 8 + o - 8 = o from by omega, List.take_append_of_le_length (by omega)]
  rw [List.drop_append, h8, List.drop_eq_nil_of_le (by omega), List.nil_append, show 8 + o + x.length - 8 = o + x.length from by omega, List.drop_append_of_le_length (by omega)]
  simp only [byteCells, List.map_append, List.map_take, List.map_drop, List.append_assoc]
theorem run_mkf (fn : Fn) (first cap : Array Value) (w : World) : (Instr.makeFunc fn first cap).run Tryz.prog w = .ok (.func fn first cap) w := rfl
theorem cells_fit (v : List Int) (rest : List UInt8) (n k : Nat) (hv : v.length = 8) (hr : rest.length = 64) : 8 + min k 64 ≤ (st8 v ++ (byteCells rest ++ [Value.int .i64 n])).toArray.size := by
  simp [st8, hv, hr, byteCells]
  omega
/-- The rest behind blocks and a copy: what is left of p, and what was behind it. -/
def tailRest (p : ByteArray) (rest : List UInt8) : List UInt8 := p.data.toList.drop (64 * (p.size / 64)) ++ rest.drop (p.size % 64)
theorem tail_len (p : ByteArray) (rest : List UInt8) (hr : rest.length = 64) : (tailRest p rest).length = 64 := by simp [tailRest, hr]; omega
theorem tail_take (p : ByteArray) (rest : List UInt8) : (tailRest p rest).take (p.size % 64) = p.data.toList.drop (64 * (p.size / 64)) := by
  have hl : (p.data.toList.drop (64 * (p.size / 64))).length = p.size % 64 := by simp; omega
  unfold tailRest
  rw [List.take_append_of_le_length (by omega), List.take_of_length_le (by omega)]
theorem hash_setn (v : List Int) (rest : List UInt8) (n : Nat) (hv : v.length = 8) (hr : rest.length = 64) (n' : Nat) {x : Int} (hx : x = (n' : Int)) : (hashCells v rest n).setIfInBounds 72 (.int .i64 x) = hashCells v rest n' := by
  subst hx
  apply Array.ext'
  have h8 : (st8 v).length = 8 := by simp [st8, hv]
  have hb : (byteCells rest).length = 64 := by rw [byteCells_length, hr]
  simp only [hashCells, List.setIfInBounds_toArray]
  rw [List.set_append_right _ _ (by omega), h8, List.set_append_right _ _ (by omega), hb]
  rfl
theorem tail_in {w : World} {g : Nat} {T : TypeId} {v : List Int} {rest : List UInt8} {n : Nat} {p : ByteArray} (hv : v.length = 8) (hr : rest.length = 64)
    (h : Blk w g T ((st8 v ++ (byteCells rest ++ [Value.int .i64 n])).toArray.toList.take 8 ++ byteCells ((p.extract (64 * (p.size / 64)) p.size).data.toList.take (min (p.extract (64 * (p.size / 64)) p.size).size 64)) ++ (st8 v ++ (byteCells rest ++ [Value.int .i64 n])).toArray.toList.drop (8 + min (p.extract (64 * (p.size / 64)) p.size).size 64)).toArray) :
    Blk w g T (hashCells v (tailRest p rest) n) := by
  have hs : (p.extract (64 * (p.size / 64)) p.size).size = p.size % 64 := by simp; omega
  have hm : min (p.extract (64 * (p.size / 64)) p.size).size 64 = p.size % 64 := by omega
  have hl : ((p.extract (64 * (p.size / 64)) p.size).data.toList).length = p.size % 64 := by simpa using hs
  have hx : (p.extract (64 * (p.size / 64)) p.size).data.toList = p.data.toList.drop (64 * (p.size / 64)) := by
    rw [extract_list _ _ _ (Nat.le_refl _), List.take_of_length_le (by simp)]
  have hx2 : (p.extract (64 * (p.size / 64)) p.size).data.toList.take (p.size % 64) = (p.extract (64 * (p.size / 64)) p.size).data.toList := List.take_of_length_le (by omega)
  rw [hm, hx2] at h
  have hc := hash_copy v rest n hv hr 0 ((p.extract (64 * (p.size / 64)) p.size).data.toList) (by omega)
  rw [hl] at hc
  have e : (List.take 0 rest ++ (p.extract (64 * (p.size / 64)) p.size).data.toList ++ List.drop (0 + p.size % 64) rest) = tailRest p rest := by
    rw [hx]; simp [tailRest]
  rw [e] at hc
  rw [← hc]
  exact h
theorem TabOk.drew {w : World} (h : TabOk w) : TabOk w.drew := h
theorem step_copy_str {ops : Array Oper} {o : Oper} {a : Act} {K : Act → World → Prop} {Q : Exit → Act → World → Prop} {E : Prop} {w : World} (hgd : o.guard = none) (d s : Operand)
    (ho : o.op = .call { callee := .builtin .copy, args := #[d, s], argTypes := #[81, 9] }) {T : TypeId} {cur : Array Value} {g : Nat} (hB : Blk w g T cur) (off dLen dCap : Nat) (st : ByteArray) (hd : a.eval d = .slice (some ⟨g, off, none⟩) dLen dCap) (hs : a.eval s = .string st)
    (n : Nat) (hn : n = min st.size dLen) (hfit : off + n ≤ cur.size)
    (h : ∀ w', Blk w' g T (cur.toList.take off ++ byteCells (st.data.toList.take n) ++ cur.toList.drop (off + n)).toArray → w.grownBy w' (some g) → w'.heap.size = w.heap.size → K (a.put o.dst (.int .i64 n)) w') :
    if Region.wanted o (yielded ops a.tmps) = true then Oper.wp Tryz.prog o a w K Q else E := by
  have hw : Region.wanted o (yielded ops a.tmps) = true := by simp [Region.wanted, hgd]
  rw [if_pos hw]
  have hr := run_copy_str w o.type g off dLen dCap st T cur hB n hn hfit
  unfold Oper.wp execOp
  simp only [ho, resolve, invoke, builtin, Sem.run_bind, Sem.run_pure, Result.andThen_ok, List.map_toArray, List.map_cons, List.map_nil, hd, hs, hr]
  exact h _ (setRow_heap w g _ _ _ _ hB) ⟨rfl, rfl, rfl, by simp, fun k _ hk => setRow_other w g k _ (fun e => hk (by rw [e]))⟩ (by simp)
set_option maxRecDepth 100000 in
set_option maxHeartbeats 1000000 in
theorem write_A (g : Nat) (m : List UInt8) (p : ByteArray) (w : World) (hm : m.length ≤ 1125899906842624) (hp : p.size ≤ 1125899906842624) (h0 : m.length % 64 = 0) (htab : TabOk w) (hg : 4 < g) (hH : IsHash w g m) :
    Calls Tryz.prog 78 #[.pointer (some ⟨g, 0, none⟩), .string p] w fun e w' => e = .returned (.int .i64 p.size) ∧ IsHash w' g (m ++ p.data.toList) ∧ w.grownBy w' (some g) := by
  have hh := held_any g m w hm hH
  rw [h0] at hh
  have Hh := hide hh; clear hh
  obtain ⟨rest, hr, ht, hB⟩ := hH
  have hb := blocks_any 134 g (stN shaInit (m.length / 64) m) (byteCells rest ++ [Value.int .i64 m.length]) p w.drew (by simp only [maxLen]; omega) (stN_length rfl _ _) (stN_U32 shaInit_U32 _ _) htab.drew hg hB.drew
  have Hb := hide hb
  have Hx := hide (And.intro hr (And.intro ht hB)); clear hr ht hB hb htab
  have hmf := run_mkf
  go_enter Tryz.func78, Tryz.ntmps78
  go_wp2_with fail
  refine (unhide Hh).mono ?_
  rintro e w1 ⟨rfl, rfl⟩
  go_wp2_with fail
  go_region_held3 (fun _ => True) (trivial) (first | (go_at_call 91; refine (unhide Hb).mono ?_; rintro e w1 ⟨rfl, hgr1, hB1⟩) | (refine step_copy_str rfl (.tmp 40) (.tmp 46) rfl hB1 8 64 64 _ rfl rfl _ rfl (cells_fit _ _ _ _ (stN_length (stN_length rfl _ _) _ _) (unhide Hx).1) ?_; intro w2 hB2 hgr2 hz2))
  have hB3 := tail_in (stN_length (stN_length rfl _ _) _ _) (unhide Hx).1 hB2
  have c72 := (hB3.cell 72).trans (hash_n _ _ _ (stN_length (stN_length rfl _ _) _ _) (tail_len p rest (unhide Hx).1))
  have f72 := hB3.frozen 72
  have Hy := hide (And.intro hB3 (And.intro hgr1 hgr2)); clear hB3 hB2 hB1 hgr1 hgr2 hz2 hmf
  go_wp2
  go_ret
  obtain ⟨hB3, hgr1, hgr2⟩ := unhide Hy
  obtain ⟨hr, ht, hB⟩ := unhide Hx
  obtain ⟨e1, e2, e3⟩ := absorb_A shaInit m p.data.toList h0
  have hpl : p.data.toList.length = p.size := by simp
  have hgr : w.grownBy w2 (some g) := grown_trans' (grown_trans' (only_drew (World.grownBy.refl w _)) hgr1) hgr2
  refine ⟨rfl, ⟨tailRest p rest, tail_len p rest hr, ?_, ?_⟩, only_setCell (p := ⟨g, 72, none⟩) hgr (.inl rfl) _⟩
  · rw [e2, e3, hpl]
    exact tail_take p rest
  · have h := hB3.set_ 72 (.int .i64 ((m.length : Int) + p.size))
    rw [hash_setn _ _ _ (stN_length (stN_length rfl _ _) _ _) (tail_len p rest hr) (m.length + p.size) (by simp)] at h
    have hl : (m ++ p.data.toList).length = m.length + p.size := by simp
    rw [← e1, hl, hpl]
    exact h
theorem run_slice_rest (g o : Nat) (r : Nat) (h : r < 64) (w : World) :
    (Instr.sliceAt 88 (.pointer (some ⟨g, o, none⟩)) (some (.int .i64 (r : Int))) none none).run Tryz.prog w = .ok (.slice (some ⟨g, o + r, none⟩) (64 - r) (64 - r)) w := by
  have ht : Tryz.prog.underlying 88 = some (.array (Tryz.prog.arrayLen 88) (Tryz.prog.elem 88)) := by kernel_rfl
  have hl : Tryz.prog.arrayLen 88 = 64 := by kernel_rfl
  have hs : (sizeOf (Tryz.prog.elem 88)).run Tryz.prog w = .ok 1 w := by kernel_rfl
  rw [run_sliceAt_array_l w _ _ ht .i64 (r : Int) (by omega) (by rw [hl]; omega), hs, hl]
  simp only [Result.andThen, slicedAt, Addr.add]
  rw [if_neg (by omega)]
  simp
theorem conv_hash {w : World} {g : Nat} {T : TypeId} {v : List Int} {rest : List UInt8} {n : Nat} (hv : v.length = 8) (hr : rest.length = 64) (hB : Blk w g T (hashCells v rest n)) :
    (convert 81 9 (.slice (some ⟨g, 8, none⟩) 64 64)).run Tryz.prog w = .ok (.string ⟨rest.toArray⟩) w := by
  have h := Go.run_convert_bytes_back w 81 9 5 ⟨g, 8, none⟩ 64 rest Tryz.underlying81 Tryz.underlying5 Tryz.underlying9 (fun j hj => by
    have hadd : (⟨g, 8, none⟩ : Addr).add j = ⟨g, 8 + j, none⟩ := by unfold Addr.add; split <;> simp_all
    rw [hadd, hB.cell, hash_rest v rest n hv hr j (by omega)])
  rw [hr] at h
  exact h
set_option maxRecDepth 100000 in
set_option maxHeartbeats 1000000 in
theorem write_B (g : Nat) (m : List UInt8) (p : ByteArray) (w : World) (r : Nat) (hm : m.length ≤ 1125899906842624) (hp : p.size ≤ 1125899906842624) (h0 : m.length % 64 = r) (hr0 : 0 < r) (hpr : 64 - r ≤ p.size) (htab : TabOk w) (hg : 4 < g) (hH : IsHash w g m) :
    Calls Tryz.prog 78 #[.pointer (some ⟨g, 0, none⟩), .string p] w fun e w' => e = .returned (.int .i64 p.size) ∧ IsHash w' g (m ++ p.data.toList) ∧ w.grownBy w' (some g) := by
  have hh := held_any g m w hm hH
  rw [h0] at hh
  have Hh := hide hh; clear hh
  have hr64 : r < 64 := by omega
  obtain ⟨rest, hr, ht, hB⟩ := hH
  rw [h0] at ht
  have Hx := hide (And.intro h0 (And.intro hr (And.intro ht (And.intro htab hB)))); clear h0 hr ht hB htab
  have hmf := run_mkf
  have hsl := run_slice_rest g 8 r hr64
  go_enter Tryz.func78, Tryz.ntmps78
  go_wp2_with fail
  refine (unhide Hh).mono ?_
  rintro e w1 ⟨rfl, rfl⟩
  go_wp2_with (refine wpList_copy_str w rfl (.tmp 18) (.tmp 19) rfl (unhide Hx).2.2.2.2 (8 + r) (64 - r) (64 - r) p rfl rfl (64 - r) (by omega) (by rw [hash_size _ _ _ (stN_length rfl _ _) (unhide Hx).2.1]; omega) ?_; intro w2 hB2 hgr2 hz2)
  have hc := hash_copy (stN shaInit (m.length / 64) m) rest m.length (stN_length rfl _ _) (unhide Hx).2.1 r (p.data.toList.take (64 - r)) (by simp; omega)
  have hpl : (p.data.toList.take (64 - r)).length = 64 - r := by simp; omega
  rw [hpl] at hc
  rw [hc] at hB2
  clear hc
  have hrl : (rest.take r ++ p.data.toList.take (64 - r) ++ rest.drop (r + (64 - r))).length = 64 := by simp [(unhide Hx).2.1]; omega
  obtain ⟨rest1, Hr1⟩ : ∃ x, Hid (rest.take r ++ p.data.toList.take (64 - r) ++ rest.drop (r + (64 - r)) = x) := ⟨_, rfl⟩
  rw [Hr1.out] at hB2 hrl
  have hcv := conv_hash (stN_length rfl _ _) hrl hB2
  have hcvd := conv_hash (stN_length rfl _ _) hrl hB2.drew
  have ht := take_any 134 g (stN shaInit (m.length / 64) m) (byteCells rest1 ++ [Value.int .i64 m.length]) ⟨rest1.toArray⟩ w2.drew (by simp [ByteArray.size, hrl]) (stN_length rfl _ _) (stN_U32 shaInit_U32 _ _) (TabOk.grown (unhide Hx).2.2.2.1 hgr2 (Nat.ne_of_lt hg)).drew hg hB2.drew
  have Ht := hide ht; clear ht
  have Hz := hide (And.intro hrl (And.intro hB2 hgr2)); clear hrl hB2 hgr2
  go_region_held3 (fun W => (convert 81 9 (.slice (some ⟨g, 8, none⟩) 64 64)).run Tryz.prog W = .ok (.string ⟨rest1.toArray⟩) W) (first | assumption) (first | (go_at_call 90; refine (unhide Ht).mono ?_; rintro e w3 ⟨rfl, hgr3, hB3⟩; have hcv3 := conv_hash (v := comp (stN shaInit (m.length / 64) m) rest1) (comp_length (stN_length rfl _ _) _) (unhide Hz).1 hB3))
  obtain ⟨hrl, hB2, hgr2⟩ := unhide Hz
  have hb := blocks_any 134 g (comp (stN shaInit (m.length / 64) m) rest1) (byteCells rest1 ++ [Value.int .i64 m.length]) (p.extract (64 - r) p.size) w3.drew (by simp only [maxLen]; simp; omega) (comp_length (stN_length rfl _ _) _) (comp_U32 _ _) (TabOk.grown (TabOk.grown (unhide Hx).2.2.2.1 hgr2 (Nat.ne_of_lt hg)).drew hgr3 (Nat.ne_of_lt hg)).drew hg hB3.drew
  have Hb := hide hb; clear hb
  have Hz := hide (And.intro hrl (And.intro hB3 (grown_trans' (only_drew hgr2) hgr3))); clear hrl hB2 hgr2 hB3 hgr3 hcv hcvd hcv3 Ht
  obtain ⟨v1, Hv1⟩ : ∃ x, Hid (comp (stN shaInit (m.length / 64) m) rest1 = x) := ⟨_, rfl⟩
  have hv1 : v1.length = 8 := by rw [← Hv1.out]; exact comp_length (stN_length rfl _ _) _
  obtain ⟨p1, Hp1⟩ : ∃ x, Hid (p.extract (64 - r) p.size = x) := ⟨_, rfl⟩
  rw [Hv1.out, Hp1.out] at Hb
  rw [Hv1.out] at Hz
  rw [Hp1.out]
  go_wp2_with fail
  go_region_held3 (fun _ => True) (trivial) (first | (go_at_call 91; refine (unhide Hb).mono ?_; rintro e w4 ⟨rfl, hgr1, hB1⟩) | (refine step_copy_str rfl (.tmp 40) (.tmp 46) rfl hB1 8 64 64 _ rfl rfl _ rfl (cells_fit _ _ _ _ (stN_length hv1 _ _) (unhide Hz).1) ?_; intro w5 hB2 hgr2 hz2))
  have hB3 := tail_in (stN_length hv1 _ _) (unhide Hz).1 hB2
  have c72 := (hB3.cell 72).trans (hash_n _ _ _ (stN_length hv1 _ _) (tail_len p1 rest1 (unhide Hz).1))
  have f72 := hB3.frozen 72
  have Hy := hide (And.intro hB3 (And.intro hgr1 hgr2)); clear hB3 hB2 hB1 hgr1 hgr2 hz2 hmf
  go_wp2
  go_ret
  obtain ⟨hB3, hgr1, hgr2⟩ := unhide Hy
  obtain ⟨h0, hr, ht, htab, hB⟩ := unhide Hx
  obtain ⟨hrl, -, hgr0⟩ := unhide Hz
  obtain ⟨e1, e2, e3⟩ := absorb_B shaInit m p.data.toList r h0 hr0 (by simpa using hpr)
  have hgr : w.grownBy w5 (some g) := grown_trans' (grown_trans' (only_drew hgr0) hgr1) hgr2
  have hp1s : p1.size = p.size - (64 - r) := by rw [← Hp1.out]; simp
  have hp1l : p1.data.toList = p.data.toList.drop (64 - r) := by rw [← Hp1.out, extract_list _ _ _ (Nat.le_refl _), List.take_of_length_le (by simp)]
  have hr1 : rest1 = m.drop (64 * (m.length / 64)) ++ p.data.toList.take (64 - r) := by
    rw [← Hr1.out, ht, show r + (64 - r) = rest.length from by omega, List.drop_length, List.append_nil]
  refine ⟨rfl, ⟨tailRest p1 rest1, tail_len p1 rest1 hrl, ?_, ?_⟩, only_setCell (p := ⟨g, 72, none⟩) hgr (.inl rfl) _⟩
  · rw [e2, e3, show p.data.toList.length = p.size from by simp, ← hp1s, ← hp1l]
    exact tail_take p1 rest1
  · have h := hB3.set_ 72 (.int .i64 ((m.length : Int) + p.size))
    rw [hash_setn _ _ _ (stN_length hv1 _ _) (tail_len p1 rest1 hrl) (m.length + p.size) (by simp)] at h
    have hl : (m ++ p.data.toList).length = m.length + p.size := by simp
    rw [← e1, hl, ← hr1, Hv1.out, show p.data.toList.length = p.size from by simp, ← hp1s, ← hp1l]
    exact h
end Go.Proofs.YtphoflcilpopgaaGreatDoor

set_option linter.unusedVariables false
set_option linter.unusedSimpArgs false
namespace Go.Proofs.YtphoflcilpopgaaGreatDoor
open Go.RowKit Go.Lib
/-- SHA-256 of a text, in plain lists. -/
def shaL (m : List UInt8) : List UInt8 := out8 (stN shaInit ((m ++ padB m.length).length / 64) (m ++ padB m.length))
theorem shaL_length (m : List UInt8) : (shaL m).length = 32 := by
  rw [shaL, out8_length, stN_length rfl]
def shaB (s : ByteArray) : ByteArray := ⟨(shaL s.data.toList).toArray⟩
theorem shaB_size (s : ByteArray) : (shaB s).size = 32 := by
  have := shaL_length s.data.toList
  simpa [shaB, ByteArray.size] using this
theorem write_any (g : Nat) (m : List UInt8) (p : ByteArray) (w : World) (hm : m.length ≤ 1125899906842624) (hp : p.size ≤ 1125899906842624) (h : m.length % 64 = 0 ∨ 64 - m.length % 64 ≤ p.size) (htab : TabOk w) (hg : 4 < g) (hH : IsHash w g m) :
    Calls Tryz.prog 78 #[.pointer (some ⟨g, 0, none⟩), .string p] w fun e w' => e = .returned (.int .i64 p.size) ∧ IsHash w' g (m ++ p.data.toList) ∧ w.grownBy w' (some g) := by
  by_cases h0 : m.length % 64 = 0
  · exact write_A g m p w hm hp h0 htab hg hH
  · exact write_B g m p w (m.length % 64) hm hp rfl (by omega) (h.resolve_left h0) htab hg hH
theorem IsHash.below {B : Nat} {w w' : World} {g : Nat} {m : List UInt8} (h : IsHash w g m) (hb : Below B w w') (hg : g < B) : IsHash w' g m := by
  obtain ⟨rest, h1, h2, h3⟩ := h
  exact ⟨rest, h1, h2, h3.below hb hg⟩
theorem IsHash.drew {w : World} {g : Nat} {m : List UInt8} (h : IsHash w g m) : IsHash w.drew g m := h
theorem IsHash.lt {w : World} {g : Nat} {m : List UInt8} (h : IsHash w g m) : g < w.heap.size := by
  obtain ⟨rest, h1, h2, h3⟩ := h
  exact h3.lt
set_option maxRecDepth 100000 in
set_option maxHeartbeats 1000000 in
theorem hsum_any (g : Nat) (m : List UInt8) (w : World) (hm : m.length ≤ 562949953421312) (htab : TabOk w) (hH : IsHash w g m) :
    Calls Tryz.prog 79 #[.pointer (some ⟨g, 0, none⟩)] w fun e w' => e = .returned (.string ⟨(shaL m).toArray⟩) ∧ Below w.heap.size w w' := by
  have hc := copy_any g m w hH
  have HT := hide (And.intro htab hH); clear htab hH
  go_enter Tryz.func79, Tryz.ntmps79
  go_wp2_with fail
  refine hc.mono ?_
  rintro e w1 ⟨rfl, hH1, hb1⟩
  have hn : w1.cell? ⟨g, 72, none⟩ = some (.int .i64 (m.length : Nat)) := by
    obtain ⟨htab, rest, hr, ht, hB⟩ := unhide HT
    exact ((hB.below hb1 hB.lt).cell 72).trans (hash_n _ _ _ (stN_length rfl _ _) hr)
  have hp := padding_any m.length w1 (by omega)
  have H1 := hide (And.intro hH1 hb1); clear hH1 hb1 hc
  go_wp2_with fail
  refine hp.mono ?_
  rintro e w2 ⟨rfl, hb2⟩
  have hpad : (⟨(padB m.length).toArray⟩ : ByteArray).size = (padB m.length).length := by simp [ByteArray.size]
  have htab2 : TabOk w2 := ((unhide HT).1.below (unhide H1).2 (unhide HT).1.lt).below hb2 (Nat.lt_of_lt_of_le (unhide HT).1.lt (unhide H1).2.size)
  have hH2 : IsHash w2 w.heap.size m := (unhide H1).1.below hb2 (unhide H1).1.lt
  have hw := write_any w.heap.size m ⟨(padB m.length).toArray⟩ w2 (by omega) (by rw [hpad, padB_length]; omega) (by rw [hpad, padB_length]; omega) htab2 (unhide HT).1.lt hH2
  have H2 := hide (And.intro hb2 (And.intro htab2 hH2)); clear hb2 htab2 hH2 hp hn
  go_wp2_with fail
  refine hw.mono ?_
  rintro e w3 ⟨rfl, hH3, hg3⟩
  obtain ⟨rest, hr, ht, hB⟩ := hH3
  have htx := text_any 134 w.heap.size (stN shaInit ((m ++ padB m.length).length / 64) (m ++ padB m.length)) (byteCells rest ++ [Value.int .i64 (m ++ padB m.length).length]) w3 (stN_length rfl _ _) (stN_U32 shaInit_U32 _ _) hB
  have H3 := hide (And.intro hB (And.intro hg3 hr)); clear hB hg3 hr ht hw
  go_wp2_with fail
  refine htx.mono ?_
  rintro e w4 ⟨rfl, hb4⟩
  go_wp2_with fail
  go_ret
  refine ⟨ret_str (by simp [shaL]), ?_⟩
  have hbw2 : Below w.heap.size w w2 := (unhide H1).2.trans ((unhide H2).1.mono (unhide H1).2.size)
  have hg3 := (unhide H3).2.1
  have hbw3 : Below w.heap.size w w3 := hbw2.grown hg3 hbw2.size (fun k hk => by cases hk; exact Nat.le_refl _)
  exact hbw3.trans (hb4.mono hbw3.size)
set_option maxRecDepth 100000 in
set_option maxHeartbeats 1000000 in
/-- sha.Sum. -/
theorem sum_any (s : ByteArray) (w : World) (hs : s.size ≤ 562949953421312) (htab : TabOk w) (hbg : BeginOk w) :
    Calls Tryz.prog 51 #[.string s] w fun e w' => e = .returned (.string (shaB s)) ∧ Below w.heap.size w w' := by
  have hc := new_any w hbg
  have HT := hide (And.intro htab hbg); clear htab hbg
  go_enter Tryz.func51, Tryz.ntmps51
  go_wp2_with fail
  refine hc.mono ?_
  rintro e w1 ⟨rfl, hH1, hb1⟩
  have htab1 : TabOk w1 := (unhide HT).1.below hb1 (unhide HT).1.lt
  have hw := write_any w.heap.size [] s w1 (by simp) (by omega) (.inl rfl) htab1 (unhide HT).1.lt hH1
  have H1 := hide (And.intro hb1 htab1); clear hb1 htab1 hc hH1
  go_wp2_with fail
  refine hw.mono ?_
  rintro e w2 ⟨rfl, hH2, hg2⟩
  have htab2 : TabOk w2 := (unhide H1).2.grown hg2 (Nat.ne_of_lt (unhide HT).1.lt)
  have hsm := hsum_any w.heap.size ([] ++ s.data.toList) w2 (by simpa using hs) htab2 hH2
  have H2 := hide hg2; clear hg2 hw hH2 htab2
  go_wp2_with fail
  refine hsm.mono ?_
  rintro e w3 ⟨rfl, hb3⟩
  go_wp2_with fail
  go_ret
  have hbw2 : Below w.heap.size w w2 := (unhide H1).1.grown (unhide H2) (unhide H1).1.size (fun k hk => by cases hk; exact Nat.le_refl _)
  exact ⟨rfl, hbw2.trans (hb3.mono hbw2.size)⟩
end Go.Proofs.YtphoflcilpopgaaGreatDoor

set_option linter.unusedVariables false
set_option linter.unusedSimpArgs false
namespace Go.Proofs.YtphoflcilpopgaaGreatDoor
open Go.RowKit Go.Lib
theorem beBytes_take (z : Int) : ∀ (n m : Nat), m < n → (beBytes z n).take (m + 1) = (beBytes z n).take m ++ [(z / 2 ^ (8 * (n - 1 - m)) % 256).toNat.toUInt8]
  | 0, m, h => by omega
  | n + 1, 0, h => by simp [beBytes]
  | n + 1, m + 1, h => by
    rw [beBytes, List.take_succ_cons, List.take_succ_cons, beBytes_take z n m (by omega), List.cons_append]
    rw [show n + 1 - 1 - (m + 1) = n - 1 - m from by omega]
set_option maxRecDepth 100000 in
set_option maxHeartbeats 1000000 in
theorem padded_any (s : ByteArray) (w : World) (hn : s.size ≤ 35184372088832) :
    Calls Tryz.prog 64 #[.string s] w fun e w' => ∃ v, e = .returned v ∧ OwnB w' w.heap.size v (s.data.toList ++ padB s.size) ∧ Below w.heap.size w w' := by
  obtain ⟨k, Hk⟩ : ∃ k, Hid (k = (119 - s.size % 64) % 64) := ⟨_, rfl⟩
  have hk0 : k < 64 := by have := Hk.out; omega
  have HP : Hid (padB s.size = 128 :: (List.replicate k 0 ++ beBytes (8 * (s.size : Int)) 8)) := by unfold padB; rw [Hk.out]; rfl
  have hsl : s.data.toList.length = s.size := by simp
  go_enter Tryz.func64, Tryz.ntmps64
  go_wp2_with (first | (refine wpList_bytesOf w rfl (.tmp 6) rfl s rfl (by simp only [maxLen]; omega) ?_; intro v0 w0 hO0 hb0 hv0; have H0 := hide (And.intro hO0 (And.intro hb0 hv0)); clear hO0 hb0 hv0) | (at_builtin; refine wpList_app1 w0 rfl (.tmp 8) (.tmp 9) rfl (unhide H0).1 rfl rfl (by omega) (by omega) (by omega) (unhide H0).2.1.size ?_; intro v1 w1 hO1 hg1 hat1; have H1 := hide (And.intro hO1 (And.intro hg1 hat1)); clear hO1 hg1 hat1))
  have hlz : ∀ j : Nat, (s.data.toList ++ (128 : UInt8) :: List.replicate j 0).length = s.size + 1 + j := fun j => by simp; omega
  have h1 : OwnB w1 w.heap.size v1 (s.data.toList ++ (128 : UInt8) :: List.replicate 0 0) ∧ Below w.heap.size w w1 :=
    ⟨(unhide H1).1, ((unhide H0).2.1.alloc (unhide H0).2.1.size _).grown (unhide H1).2.1 (by simp; have := (unhide H0).2.1.size; omega) (fun k hk => by rw [(unhide H0).2.2] at hk; cases hk; exact Nat.le_refl _)⟩
  have H1' := hide h1; clear h1 H1 H0
  have HLZ := Lib.hid hlz; clear hlz
  go_loopw [3] (fun b wr => ∃ (j g cap : Nat), j ≤ k ∧ b = .slice (some ⟨g, 0, none⟩) (s.size + 1 + j) cap ∧ OwnB wr w.heap.size b (s.data.toList ++ (128 : UInt8) :: List.replicate j 0) ∧ Below w.heap.size w wr) (fun b _ => s.size + 70 - slen b)
  case atStart =>
    obtain ⟨ho, hb⟩ := unhide H1'
    rcases ho.form with ⟨_, h⟩ | ⟨g', cap', rfl, _, _, _⟩
    · simp at h
    · rw [HLZ.out 0] at ho ⊢
      exact ⟨0, g', cap', by omega, rfl, ho, hb⟩
  case round =>
    obtain ⟨j, g, cap, hj, rfl, hO, hb⟩ := hrel
    have Hx := hide (And.intro hO hb); clear hO hb H1'
    rcases Nat.lt_or_ge j k with hlt | hge
    · have htest2 : (((s.size : Int) + 1 + (j : Int)) % 64 != 56) = true := by
        have := Hk.out
        simp
        omega
      go_wp2_with (first | (at_builtin; refine wpList_app1 wr rfl (.tmp 15) (.tmp 16) rfl (unhide Hx).1 rfl rfl (by omega) (by omega) (by rw [HLZ.out]; omega) (unhide Hx).2.size ?_; intro v' w' hO' hg hat; have HO' := hide (And.intro hO' (And.intro hg hat)); clear hO' hg hat))
      go_roundw
      case rel =>
        obtain ⟨hO', hg, hat⟩ := unhide HO'
        obtain ⟨hO, hb⟩ := unhide Hx
        have e : s.data.toList ++ (128 : UInt8) :: List.replicate j 0 ++ [(0 : Int).toNat.toUInt8] = s.data.toList ++ 128 :: List.replicate (j + 1) 0 := by rw [List.append_assoc, List.cons_append, List.replicate_succ']; rfl
        rw [e] at hO'
        rcases hO'.form with ⟨_, h⟩ | ⟨g', cap', rfl, _, _, _⟩
        · simp at h
        · rw [HLZ.out (j + 1)] at hO' ⊢
          exact ⟨j + 1, g', cap', by omega, rfl, hO', (hb.alloc hb.size _).grown hg (by simp; have := hb.size; omega) (fun k hk => (hO.lt k hk).1)⟩
      case measure =>
        have hs := (unhide HO').1.slen
        simp only [List.length_append, List.length_cons, List.length_replicate, List.length_nil] at hs
        show s.size + 70 - slen v' < s.size + 70 - (s.size + 1 + j)
        omega
    · have hjk : k ≤ j := hge
      have htest2 : (((s.size : Int) + 1 + (j : Int)) % 64 != 56) = false := by
        have := Hk.out
        simp
        omega
      go_wp2_with fail
      have hjk' : Hid (j = k) := Lib.hid (by omega)
      go_loopw [3, 5] (fun b i wz => ∃ m : Nat, m ≤ 8 ∧ i = .int .i64 m ∧ OwnB wz w.heap.size b (s.data.toList ++ (128 : UInt8) :: List.replicate k 0 ++ (beBytes (8 * (s.size : Int)) 8).take m) ∧ Below w.heap.size w wz) (fun _ i _ => 8 - (intOf i).toNat)
      case atStart =>
        refine ⟨0, by omega, rfl, ?_, (unhide Hx).2⟩
        rw [List.take_zero, List.append_nil, ← hjk'.out]
        exact (unhide Hx).1
      case round =>
        clear Hx
        obtain ⟨m, hm, rfl, hO, hb⟩ := hrel
        have Hx := hide (And.intro hO hb); clear hO hb
        rcases Nat.lt_or_ge m 8 with hlt8 | hge8
        · have h56 : (0 : Int) ≤ 56 - 8 * (m : Int) := by omega
          have hlm : (s.data.toList ++ (128 : UInt8) :: List.replicate k 0 ++ (beBytes (8 * (s.size : Int)) 8).take m).length + 1 ≤ 140737488355328 := by simp; omega
          go_wp2_with (first | (at_builtin; refine wpList_app1 wr rfl (.tmp 26) (.tmp 34) rfl (unhide Hx).1 rfl rfl (Int.emod_nonneg _ (by decide)) (Int.emod_lt_of_pos _ (by decide)) hlm (unhide Hx).2.size ?_; intro v' w' hO' hg hat; have HO' := hide (And.intro hO' (And.intro hg hat)); clear hO' hg hat))
          go_roundw
          case rel =>
            obtain ⟨hO', hg, hat⟩ := unhide HO'
            obtain ⟨hO, hb⟩ := unhide Hx
            rw [Int.mul_comm (s.size : Int) 8] at hO'
            refine ⟨m + 1, by omega, by go_num, ?_, (hb.alloc hb.size _).grown hg (by simp; have := hb.size; omega) (fun k hk => (hO.lt k hk).1)⟩
            rw [beBytes_take _ _ _ hlt8]
            rw [show ((2 : Int) ^ (8 * (8 - 1 - m))) = 2 ^ (56 - 8 * m) from by congr 1; omega, ← List.append_assoc]
            exact hO'
          case measure => simp [intOf]; omega
        · go_wp2_with fail
          go_ret
          have hm8 : m = 8 := by omega
          refine ⟨_, rfl, ?_, (unhide Hx).2⟩
          have h := (unhide Hx).1
          rw [List.take_of_length_le (by rw [beBytes_length]; omega)] at h
          rw [HP.out]
          simpa using h
theorem step_app_cells {ops : Array Oper} {o : Oper} {a : Act} {K : Act → World → Prop} {Q : Exit → Act → World → Prop} {E : Prop} {w : World} (hgd : o.guard = none) (s x : Operand)
    (ho : o.op = .call { callee := .builtin .append, args := #[s, x], argTypes := #[81, 81] })
    {base : Nat} {v : Value} {bs : List UInt8} (hown : OwnB w base v bs) (hs : a.eval s = v) (ad : Addr) (m c : Nat) (nb : List UInt8) (hx : a.eval x = .slice (some ad) m c) (hm : nb.length = m)
    (hnews : ∀ j u, (byteCells nb)[j]? = some u → w.cell? (ad.add j) = some u) (h47 : bs.length + m ≤ 140737488355328) (hbase : base ≤ w.heap.size)
    (h : ∀ v' w', OwnB w' base v' (bs ++ nb) → w.grownBy w' v.ownBlock → (v'.ownBlock = v.ownBlock ∨ v'.ownBlock = some w.heap.size) → K (a.put o.dst v') w') :
    if Region.wanted o (yielded ops a.tmps) = true then Oper.wp Tryz.prog o a w K Q else E := by
  have hw : Region.wanted o (yielded ops a.tmps) = true := by simp [Region.wanted, hgd]
  rw [if_pos hw]
  obtain ⟨v', w', hr, h2, h3, h4⟩ := run_app_cells w o.type base v bs hown ad m c nb hm hnews h47 hbase
  unfold Oper.wp execOp
  simp only [ho, resolve, invoke, builtin, Sem.run_bind, Sem.run_pure, Result.andThen_ok, List.map_toArray, List.map_cons, List.map_nil, hs, hx, hr]
  exact h v' w' h2 h3 h4
theorem u8_cell (y : Int) : Value.int .u8 (IntKind.u8.wrap y) = .int .u8 (((y % 256).toNat.toUInt8).toNat : Int) := by
  have h : (((y % 256).toNat.toUInt8).toNat : Int) = y % 256 := by
    have e : ((y % 256).toNat.toUInt8).toNat = (y % 256).toNat % 256 := UInt8.toNat_ofNat' ..
    rw [e]; omega
  rw [h]
  simp [IntKind.wrap, IntKind.bits, IntKind.signed]
theorem news4 (w : World) (x : Int) (x0 : 0 ≤ x) (x1 : x < 4294967296) : ∀ j u, (byteCells (beBytes x 4))[j]? = some u →
    ((w.alloc (.cells #[.int .u8 (IntKind.u8.wrap (x / 16777216)), .int .u8 (IntKind.u8.wrap (x / 65536)), .int .u8 (IntKind.u8.wrap (x / 256)), .int .u8 (IntKind.u8.wrap x)] 5)).drew).cell? ((⟨w.heap.size, 0, none⟩ : Addr).add j) = some u := by
  intro j u h
  have hadd : (⟨w.heap.size, 0, none⟩ : Addr).add j = ⟨w.heap.size, j, none⟩ := by unfold Addr.add; split <;> simp_all
  rw [hadd, ((Blk.new w 5 _).drew).cell j, ← h]
  simp only [u8_cell, beBytes, byteCells, List.map_cons, List.map_nil]
  simp
def FirstOk (w : World) : Prop := ∀ i, i < 8 → w.cell? ⟨0, i, none⟩ = some (.int .u32 (shaInit.getD i 0))
theorem FirstOk.lt {w : World} (h : FirstOk w) : 0 < w.heap.size := World.block_lt_of_cell? w _ (h 0 (by omega))
theorem FirstOk.below {B : Nat} {w w' : World} (h : FirstOk w) (hb : Below B w w') (hB : 0 < B) : FirstOk w' :=
  fun i hi => (hb.cell (p := ⟨0, i, none⟩) hB).trans (h i hi)
set_option maxRecDepth 100000 in
set_option maxHeartbeats 1000000 in
theorem rsum_any (s : ByteArray) (w : World) (hn : s.size ≤ 35184372088832) (htab : TabOkR w) (hf : FirstOk w) :
    Calls Tryz.prog 35 #[.string s] w fun e w' => e = .returned (.string (shaB s)) ∧ Below w.heap.size w w' := by
  have hp := padded_any s w hn
  have HT := hide (And.intro htab hf)
  clear htab hf
  go_enter Tryz.func35, Tryz.ntmps35
  go_wp2_with fail
  refine hp.mono ?_
  rintro e w1 ⟨v, rfl, hO, hb⟩
  have hf := (unhide HT).2.below hb (unhide HT).2.lt
  have d0 := hf 0 (by omega)
  have d1 := hf 1 (by omega)
  have d2 := hf 2 (by omega)
  have d3 := hf 3 (by omega)
  have d4 := hf 4 (by omega)
  have d5 := hf 5 (by omega)
  have d6 := hf 6 (by omega)
  have d7 := hf 7 (by omega)
  clear hf
  simp [shaInit] at d0 d1 d2 d3 d4 d5 d6 d7
  obtain ⟨M, HM⟩ : ∃ M, Hid (s.data.toList ++ padB s.size = M) := ⟨_, rfl⟩
  rw [HM.out] at hO
  obtain ⟨K, hK, hKm⟩ : ∃ K, M.length = 64 * K ∧ K ≤ 1099511627776 := ⟨M.length / 64, by rw [← HM.out, List.length_append, padB_length]; simp; omega, by rw [← HM.out, List.length_append, padB_length]; simp; omega⟩
  have hK0 : 0 < K := by
    have : M.length ≠ 0 := by rw [← HM.out, List.length_append, padB_length]; omega
    omega
  have hby : ∀ (g cap : Nat), v = .slice (some ⟨g, 0, none⟩) M.length cap → BytesAt w1 g M ∧ g < w1.heap.size := by
    rintro g cap rfl
    exact ⟨fun j hj => hO.cells rfl j hj, (hO.lt g rfl).2⟩
  rcases hO.form with ⟨_, h⟩ | ⟨g, cap, hv, hg0, hg1, _⟩
  · rw [h] at hK; simp at hK; omega
  have hby := (hby g cap hv).1
  have Hv := Lib.hid hv
  rw [hK] at hv
  rw [hv]
  clear hv
  have H1 := hide (And.intro hO (And.intro hb hby)); clear hO hb hp hby
  go_wp2_with fail
  have hB0 : Blk (w1.alloc (.cells #[.int .u32 1779033703, .int .u32 3144134277, .int .u32 1013904242, .int .u32 2773480762, .int .u32 1359893119, .int .u32 2600822924, .int .u32 528734635, .int .u32 1541459225] 108)) w1.heap.size 108 (st8 (stN shaInit 0 M)).toArray := Blk.new _ _ _
  have HB0 := hide hB0; clear hB0
  go_loopw [5] (fun i wr => ∃ k : Nat, k ≤ K ∧ i = .int .i64 (64 * (k : Int)) ∧ Blk wr w1.heap.size 108 (st8 (stN shaInit k M)).toArray ∧ Below w1.heap.size w1 wr) (fun i _ => 64 * K - (intOf i).toNat)
  case atStart => exact ⟨0, by omega, rfl, unhide HB0, (Below.refl _ _).alloc (Nat.le_refl _) _⟩
  case round =>
    clear HB0
    obtain ⟨k, hk, rfl, hB, hb⟩ := hrel
    have hH := hide (And.intro hB hb); clear hB hb
    rcases Nat.lt_or_ge k K with hlt | hge
    · obtain ⟨C, HC⟩ : ∃ C, Hid ((st8 (stN shaInit k M)).toArray = C) := ⟨_, rfl⟩
      have hB := (unhide hH).1
      rw [HC.out] at hB
      have hC8 : C.size = 8 := by rw [← HC.out]; simp [st8, stN_length (v := shaInit) rfl]
      have ci8 : (Tryz.prog.info? 108).map (·.size) = some C.size := by rw [hC8]; kernel_rfl
      have HB := hide (And.intro hB (And.intro hC8 ci8)); clear hB hC8 ci8
      go_wp2_with (first | (refine wpList_load_row rfl 108 (.tmp 4) rfl w1.heap.size rfl 108 C (0, 0) _ (unhide HB).1 Tryz.underlying108 rfl (unhide HB).2.2 ?_))
      have hbk := block_any (stN shaInit k M) g M cap (64 * k : Int) wr (stN_length rfl _ _) (stN_U32 shaInit_U32 _ _) (((unhide HT).1.below (unhide H1).2.1 (unhide HT).1.lt).below (unhide hH).2 (Nat.lt_of_lt_of_le (unhide HT).1.lt (unhide H1).2.1.size)) (by simp only [maxLen]; omega) (by omega) (by omega) (Nat.lt_of_lt_of_le hg1 (unhide hH).2.size) ((unhide H1).2.2.below (unhide hH).2 hg1)
      rw [HC.out, hK] at hbk
      refine hbk.mono ?_
      clear hbk
      rintro e w2 ⟨rfl, hb2⟩
      have hCs : comp (stN shaInit k M) (List.take 64 (List.drop (64 * (k : Int)).toNat M)) = stN shaInit (k + 1) M := by
        rw [stN_add, show ((64 : Int) * k).toNat = 64 * k from by omega]; rfl
      rw [hCs]
      obtain ⟨D, HD⟩ : ∃ D, Hid ((st8 (stN shaInit (k + 1) M)).toArray = D) := ⟨_, rfl⟩
      have hD8 : D.size = 8 := by rw [← HD.out]; simp [st8, stN_length (v := shaInit) rfl]
      have oneD : D.all (·.oneCell') = true := by rw [← HD.out]; exact st8_one _
      have ci8 : (Tryz.prog.info? 108).map (·.size) = some C.size := (unhide HB).2.2
      have hCD : C.size = D.size := by rw [hD8]; exact (unhide HB).2.1
      have hB2 := (unhide HB).1.below hb2 (unhide HB).1.lt
      rw [HD.out]
      have H2 := hide (And.intro hB2 (And.intro ci8 (And.intro hCD (And.intro oneD hb2)))); clear hB2 ci8 hCD oneD hb2 hD8
      go_wp2_with (first | (refine wpList_store_row rfl 108 (.tmp 4) (.tmp 20) rfl w1.heap.size D rfl rfl 108 C (unhide H2).1 ((unhide H2).2.1.trans (by rw [(unhide H2).2.2.1])) (unhide H2).2.2.1 (unhide H2).2.2.2.1 ?_))
      go_roundw
      case rel =>
        refine ⟨k + 1, by omega, by go_num, ?_, ((unhide hH).2.trans ((unhide H2).2.2.2.2.mono (unhide hH).2.size)).setRow (Nat.le_refl _) _⟩
        have h := setRow_heap w2 w1.heap.size C D _ _ (unhide H2).1
        rw [HD.out]
        exact h
      case measure => simp [intOf]; omega
    · have hkK : k = K := by omega
      have hB := (unhide hH).1
      have hb := (unhide hH).2
      obtain ⟨U, HU⟩ : ∃ U, Hid (stN shaInit K M = U) := ⟨_, rfl⟩
      have hU8 : U.length = 8 := by rw [← HU.out]; exact stN_length rfl _ _
      have hUU : U32 U := by rw [← HU.out]; exact stN_U32 shaInit_U32 _ _
      have hBU : Blk wr w1.heap.size 108 (st8 U).toArray := by rw [← HU.out, ← hkK]; exact hB
      have hbw : Below w.heap.size w wr := (unhide H1).2.1.trans (hb.mono (unhide H1).2.1.size)
      have hw1 : w.heap.size ≤ w1.heap.size := (unhide H1).2.1.size
      have hH2 := hide (And.intro hBU hbw)
      have HkK := Lib.hid hkK
      clear hB hb hH hBU hbw hkK H1
      go_wp2_with fail
      generalize decide (k < K) = bz
      go_loopw [6, 7] (fun b i wz => ∃ m : Nat, m ≤ 8 ∧ i = .int .i64 m ∧ Blk wz w1.heap.size 108 (st8 U).toArray ∧ OwnB wz (w1.heap.size + 1) b (out8 (U.take m)) ∧ Below w.heap.size w wz) (fun _ i _ => 8 - (intOf i).toNat)
      case atStart => exact ⟨0, by omega, rfl, (unhide hH2).1, OwnB.nil _ _, (unhide hH2).2⟩
      case round =>
        clear hH2
        obtain ⟨m, hm, rfl, hB, hO, hb⟩ := hrel
        rcases Nat.lt_or_ge m 8 with hlt8 | hge8
        · have c1 := (hB.cell m).trans (st8_at U m (by omega))
          obtain ⟨x0, x1⟩ := hUU.at_ m
          generalize hx : U.getD m 0 = x at c1 x0 x1
          have Hx := hide (And.intro hx (And.intro hB (And.intro hO hb))); clear hx hB hO hb
          go_wp2_with fail
          have hol : (out8 (U.take m)).length + 4 ≤ 140737488355328 := by rw [out8_length]; simp; omega
          have hbs : w1.heap.size + 1 ≤ wr.heap.size := (unhide Hx).2.1.lt
          have c1' : ∀ o : Obj, (wr.alloc o).drew.cell? ⟨w1.heap.size, m, none⟩ = some (.int .u32 x) := fun o => (World.cell?_alloc_lt wr o ⟨w1.heap.size, m, none⟩ (by show w1.heap.size < wr.heap.size; omega)).trans c1
          have hne : some w1.heap.size ≠ u6.ownBlock := fun e => by
            have := ((unhide Hx).2.2.1.lt w1.heap.size e.symm).1
            omega
          have Hc1' := hide c1'; clear c1'
          go_region_held3 (fun W => W.cell? ⟨w1.heap.size, m, none⟩ = some (.int .u32 x)) (first | assumption | exact unhide Hc1' _) (first | (refine step_app_cells rfl (.tmp 25) (.tmp 45) rfl ((unhide Hx).2.2.1.drew.alloc _) rfl ⟨wr.heap.size, 0, none⟩ 4 4 (beBytes x 4) rfl rfl (news4 wr x x0 x1) hol (by simp; omega) ?_; intro v' w' hO' hg hat; have c2 : w'.cell? ⟨w1.heap.size, m, none⟩ = some (.int .u32 x) := by { have hb2 := (((unhide Hx).2.1.alloc _).drew.grown hg hne).cell m; rw [hb2, ← (unhide Hx).2.1.cell m]; exact c1 }))
          have HO' := hide (And.intro hO' hg); clear hO' hg hat c2
          go_wp2_with fail
          go_roundw
          case rel =>
            obtain ⟨hO', hg⟩ := unhide HO'
            obtain ⟨hx, hB, hO, hb⟩ := unhide Hx
            refine ⟨m + 1, by omega, by go_num, ((hB.alloc _).drew).grown hg hne, ?_, (below_drewN (hb.alloc hb.size _) 1).grown hg (by show w.heap.size ≤ (wr.alloc _).heap.size; simp; omega) (fun k hk => by have := (hO.lt k hk).1; omega)⟩
            have e : out8 (U.take (m + 1)) = out8 (U.take m) ++ beBytes x 4 := by
              have hmU : m < U.length := by omega
              have hxk : U[m] = x := by rw [← hx]; simp [List.getD, hmU]
              unfold out8
              rw [List.take_succ_eq_append_getElem hmU, List.flatMap_append, hxk]
              simp
            rw [e]; exact hO'
          case measure => simp [intOf]; omega
        · have hcv := conv_own hO
          have Hx := hide hb; clear hb hO
          go_wp2_with fail
          go_ret
          refine ⟨ret_str ?_, unhide Hx⟩
          rw [List.take_of_length_le (by omega), ← HU.out]
          unfold shaB shaL
          rw [show s.data.toList.length = s.size from by simp, HM.out, hK, show 64 * K / 64 = K from by omega]
end Go.Proofs.YtphoflcilpopgaaGreatDoor

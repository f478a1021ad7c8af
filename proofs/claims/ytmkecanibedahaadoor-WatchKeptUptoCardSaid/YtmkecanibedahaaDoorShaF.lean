/-
  CONTRACTS of package sha: numbers as bytes, padding, the text of a state.
-/
import Derived.Test.YtmkecanibedahaaDoorRows
import Derived.Test.YtmkecanibedahaaDoorWd
import Derived.Test.YtmkecanibedahaaDoorBytes
import Derived.Test.YtmkecanibedahaaDoorShaD
set_option linter.unusedVariables false
set_option linter.unusedSimpArgs false
namespace Go.Proofs.YtmkecanibedahaaDoor
open Go.RowKit Go.Lib
/-- A number as so many bytes, the highest first. -/
def beBytes (z : Int) : Nat → List UInt8
  | 0 => []
  | n + 1 => (z / 2 ^ (8 * n) % 256).toNat.toUInt8 :: beBytes z n
theorem beBytes_length (z : Int) (n : Nat) : (beBytes z n).length = n := by
  induction n with
  | zero => rfl
  | succ n ih => simp [beBytes, ih]
set_option maxRecDepth 100000 in
set_option maxHeartbeats 400000 in
theorem put_any (base : Nat) (v : Value) (bs : List UInt8) (z : Int) (size : Int) (w : World) (hown : OwnB w base v bs) (hz0 : 0 ≤ z) (hz1 : z < 18446744073709551616) (hs0 : 0 ≤ size) (hs : size ≤ 8) (h47 : bs.length + 8 ≤ 140737488355328) (hbase : base ≤ w.heap.size) :
    Calls Tryd.prog 41 #[v, .int .u64 z, .int .i64 size] w fun e w' => ∃ v', e = .returned v' ∧ OwnB w' base v' (bs ++ beBytes z size.toNat) ∧ Below base w w' := by
  obtain ⟨n, rfl⟩ := Int.eq_ofNat_of_zero_le hs0
  rw [Int.toNat_natCast]
  have hn : n ≤ 8 := by omega
  clear hs hs0
  have Hown := hide hown; clear hown
  go_enter Tryd.func41, Tryd.ntmps41
  go_wp2
  go_loopw [0, 2] (fun b i wr => ∃ (r : Nat) (c : List UInt8), i = .int .i64 ((r : Int) - 1) ∧ OwnB wr base b c ∧ c ++ beBytes z r = bs ++ beBytes z n ∧ r ≤ n ∧ c.length + r = bs.length + n ∧ Below base w wr ∧ base ≤ wr.heap.size) (fun _ i _ => ((intOf i) + 1).toNat)
  case atStart => exact ⟨n, bs, rfl, unhide Hown, rfl, Nat.le_refl _, rfl, Below.refl _ _, hbase⟩
  case round =>
    obtain ⟨r, c, rfl, hO, hc, hr, hl, hb, hbs⟩ := hrel
    rcases Nat.eq_zero_or_pos r with h0 | h0
    · subst h0
      have Hx := hide (And.intro hO (And.intro hc hb)); clear hO hc hb hl
      go_wp2
      go_ret
      obtain ⟨hO, hc, hb⟩ := unhide Hx
      exact ⟨_, rfl, by rw [← hc]; simpa [beBytes] using hO, hb⟩
    · obtain ⟨m, rfl⟩ : ∃ m, r = m + 1 := ⟨r - 1, by omega⟩
      rw [show (((m + 1 : Nat) : Int) - 1) = (m : Int) from by omega]
      have Hc := hide (And.intro hc hl)
      have hcl : c.length + 1 ≤ 140737488355328 := by omega
      clear hc hl h0
      have Hb := hide hb; clear hb
      go_wp2_with (first | (at_builtin; go_loud (refine wpList_app1 wr rfl (.tmp 13) (.tmp 19) rfl hO rfl rfl (Int.emod_nonneg _ (by decide)) (Int.emod_lt_of_pos _ (by decide)) hcl hbs ?_); intro v' w' hO' hg hat; have HO' := hide (And.intro hO' (And.intro hg hat)); clear hO' hg hat))
      go_roundw
      case rel =>
        obtain ⟨hO', hg, hat⟩ := unhide HO'
        obtain ⟨hc, hl⟩ := unhide Hc
        refine ⟨m, _, rfl, hO', ?_, by omega, by simp; omega, ?_, ?_⟩
        · rw [← hc, beBytes]; simp
        · exact ((unhide Hb).alloc hbs _).grown hg (by simp; omega) (fun k hk => (hO.lt k hk).1)
        · have := hg.size; simp at this; omega
      case measure => simp [intOf]
/-- The bytes of the words. -/
def out8 (v : List Int) : List UInt8 := v.flatMap fun x => beBytes x 4
theorem out8_length (v : List Int) : (out8 v).length = 4 * v.length := by
  induction v with
  | nil => rfl
  | cons x v ih => simp [out8, beBytes_length] at ih ⊢; omega
set_option maxRecDepth 100000 in
set_option maxHeartbeats 400000 in
theorem text_any (T : TypeId) (g : Nat) (v : List Int) (rest : List Value) (w : World) (hv : v.length = 8) (hu : U32 v) (hG : Blk w g T (st8 v ++ rest).toArray) :
    Calls Tryd.prog 33 #[.pointer (some ⟨g, 0, none⟩)] w fun e w' => e = .returned (.string ⟨(out8 v).toArray⟩) ∧ Below w.heap.size w w' := by
  have glt := hG.lt
  have Hv := Lib.hid hv; clear hv
  obtain ⟨i0, hi0, hz0, hz1, hz2⟩ := info_parts byteInfo
  go_enter Tryd.func33, Tryd.ntmps33
  have hmk : ∀ W, (Instr.makeSlice 48 (.int .i64 0) (.int .i64 32)).run Tryd.prog W = .ok (.slice (some ⟨W.heap.size, 0, none⟩) 0 32) (W.alloc (.cells #[.int .u8 0, .int .u8 0, .int .u8 0, .int .u8 0, .int .u8 0, .int .u8 0, .int .u8 0, .int .u8 0, .int .u8 0, .int .u8 0, .int .u8 0, .int .u8 0, .int .u8 0, .int .u8 0, .int .u8 0, .int .u8 0, .int .u8 0, .int .u8 0, .int .u8 0, .int .u8 0, .int .u8 0, .int .u8 0, .int .u8 0, .int .u8 0, .int .u8 0, .int .u8 0, .int .u8 0, .int .u8 0, .int .u8 0, .int .u8 0, .int .u8 0, .int .u8 0] 5)) := fun _ => by kernel_rfl
  go_wp2
  clear hmk
  go_loopw [3, 8] (fun b i wr => ∃ k : Nat, k ≤ 8 ∧ i = .int .i64 k ∧ OwnB wr w.heap.size b (out8 (v.take k)) ∧ Below w.heap.size w wr) (fun _ i _ => 8 - (intOf i).toNat)
  case atStart =>
    exact ⟨0, by omega, rfl, OwnB.of_row (by simpa [out8, byteCells] using World.ownsRow_made w _ 32 (Nat.le_refl _) (by decide) rfl), (Below.refl _ _).alloc (Nat.le_refl _) _⟩
  case round =>
    obtain ⟨k, hk, rfl, hO, hb⟩ := hrel
    by_cases hlt : k < 8
    · have hvk : k < v.length := by rw [Hv.out]; exact hlt
      have c1 := ((hG.below hb glt).cell k)
      rw [show (st8 v ++ rest).toArray[k]? = some (Value.int .u32 (v.getD k 0)) from by simp [st8, List.getElem?_append, hvk, List.getD]] at c1
      obtain ⟨x0, x1⟩ := hu.at_ k
      generalize hx : v.getD k 0 = x at *
      have Hx := hide (And.intro hx (And.intro hO hb)); clear hx hO hb
      have hG' := hide hG
      go_wp2_with fail
      refine (put_any w.heap.size _ _ x 4 wr (unhide Hx).2.1 x0 (by omega) (by omega) (by omega) (by rw [out8_length]; simp; omega) (unhide Hx).2.2.size).mono ?_
      rintro e w1 ⟨v1, rfl, hO1, hb1⟩
      have Hy := hide (And.intro hO1 hb1); clear hO1 hb1
      go_wp2
      go_roundw
      case rel =>
        obtain ⟨hO1, hb1⟩ := unhide Hy
        obtain ⟨hx, hO, hb⟩ := unhide Hx
        refine ⟨k + 1, by omega, by go_num, ?_, hb.trans hb1⟩
        have e : out8 (v.take (k + 1)) = out8 (v.take k) ++ beBytes x 4 := by
          have hxk : v[k] = x := by rw [← hx]; simp [List.getD, hvk]
          unfold out8
          rw [List.take_succ_eq_append_getElem hvk, List.flatMap_append, hxk]
          simp
        rw [e]; exact hO1
      case measure => simp [intOf]; omega
    · have hk8 : 8 ≤ k := by omega
      have hcv := conv_own hO
      have Hx := hide hb; clear hb hO
      go_wp2
      go_ret
      exact ⟨ret_str (by rw [List.take_of_length_le (by rw [Hv.out]; omega)]), unhide Hx⟩
/-- What is put behind a text of n bytes. -/
def padB (n : Nat) : List UInt8 := 128 :: (List.replicate ((119 - n % 64) % 64) 0 ++ beBytes (8 * (n : Int)) 8)
theorem padB_length (n : Nat) : (padB n).length = 9 + (119 - n % 64) % 64 := by simp [padB, beBytes_length]; omega
def slen : Value → Nat
  | .slice _ n _ => n
  | _ => 0
theorem OwnB.slen {w : World} {base : Nat} {v : Value} {bs : List UInt8} (h : OwnB w base v bs) : slen v = bs.length := by
  rcases h.form with ⟨rfl, rfl⟩ | ⟨g, cap, rfl, _⟩ <;> rfl
theorem OwnB.at_row {w : World} {base g cap n : Nat} {bs : List UInt8} (h : OwnB w base (.slice (some ⟨g, 0, none⟩) n cap) bs) : n = bs.length ∧ base ≤ g := by
  rcases h with ⟨hv, _⟩ | ⟨g', cap', _, _, hv, hb, _⟩
  · cases hv
  · injection hv with h1 h2 h3
    injection h1 with h1
    injection h1 with h1
    exact ⟨h2, by omega⟩
set_option maxRecDepth 100000 in
set_option maxHeartbeats 400000 in
theorem padding_any (n : Nat) (w : World) (hn : n ≤ 1125899906842624) :
    Calls Tryd.prog 32 #[.int .i64 n] w fun e w' => e = .returned (.string ⟨(padB n).toArray⟩) ∧ Below w.heap.size w w' := by
  obtain ⟨k, Hk⟩ : ∃ k, Hid (k = (119 - n % 64) % 64) := ⟨_, rfl⟩
  have hk0 : k < 64 := by have := Hk.out; omega
  have HP : Hid (padB n = 128 :: (List.replicate k 0 ++ beBytes (8 * (n : Int)) 8)) := by unfold padB; rw [Hk.out]; rfl
  go_enter Tryd.func32, Tryd.ntmps32
  go_wp2
  go_loopw [3] (fun b wr => ∃ (j g cap : Nat), j ≤ k ∧ b = .slice (some ⟨g, 0, none⟩) (j + 1) cap ∧ OwnB wr w.heap.size b (128 :: List.replicate j 0) ∧ Below w.heap.size w wr) (fun b _ => 70 - slen b)
  case atStart =>
    refine ⟨0, w.heap.size, 1, by omega, rfl, ?_, (Below.refl _ _).alloc (Nat.le_refl _) _⟩
    exact OwnB.of_row (by simpa [byteCells] using World.ownsRow_lit (base := w.heap.size) (e := 5) (size := 1) w #[Value.int .u8 128] 1 (Nat.le_refl _) (by decide) rfl)
  case round =>
    obtain ⟨j, g, cap, hj, rfl, hO, hb⟩ := hrel
    have Hx := hide (And.intro hO hb); clear hO hb
    rcases Nat.lt_or_ge j k with hlt | hge
    · have htest : (((n : Int) + ((j : Int) + 1)) % 64 == 56) = false := by
        have := Hk.out
        simp
        omega
      have htest2 : (((n : Int) + ((j : Int) + 1)) % 64 != 56) = true := by
        have := Hk.out
        simp
        omega
      go_wp2_with (first | (at_builtin; refine wpList_app1 wr rfl (.tmp 11) (.tmp 12) rfl (unhide Hx).1 rfl rfl (by omega) (by omega) (by simp; omega) (unhide Hx).2.size ?_; intro v' w' hO' hg hat; have HO' := hide (And.intro hO' (And.intro hg hat)); clear hO' hg hat))
      go_roundw
      case rel =>
        obtain ⟨hO', hg, hat⟩ := unhide HO'
        obtain ⟨hO, hb⟩ := unhide Hx
        have e : (128 : UInt8) :: List.replicate j 0 ++ [(0 : Int).toNat.toUInt8] = 128 :: List.replicate (j + 1) 0 := by rw [List.replicate_succ']; rfl
        rw [e] at hO'
        rcases hO'.form with ⟨_, h⟩ | ⟨g', cap', rfl, _, _, _⟩
        · cases h
        · have hl : ((128 : UInt8) :: List.replicate (j + 1) 0).length = j + 1 + 1 := by simp
          rw [hl] at hO' ⊢
          exact ⟨j + 1, g', cap', by omega, rfl, hO', (hb.alloc hb.size _).grown hg (by simp; have := hb.size; omega) (fun k hk => (hO.lt k hk).1)⟩
      case measure =>
        have hs := (unhide HO').1.slen
        simp only [List.length_append, List.length_cons, List.length_replicate, List.length_nil] at hs
        show 70 - slen v' < 70 - (j + 1)
        omega
    · obtain rfl : j = k := by omega
      have htest2 : (((n : Int) + ((j : Int) + 1)) % 64 != 56) = false := by
        have := Hk.out
        simp
        omega
      go_wp2_with fail
      refine (put_any w.heap.size _ _ _ 8 wr (unhide Hx).1 (by omega) (by omega) (by omega) (by omega) (by simp; omega) (unhide Hx).2.size).mono ?_
      rintro e w1 ⟨v1, rfl, hO1, hb1⟩
      have hcv := conv_own hO1
      have Hy := hide (And.intro hO1 hb1); clear hO1 hb1
      go_wp2
      go_ret
      exact ⟨ret_str (by rw [HP.out]), (unhide Hx).2.trans (unhide Hy).2⟩
end Go.Proofs.YtmkecanibedahaaDoor

/-
  CONTRACTS of package mac and of the document's answer for it: a key's name; the same codes.
-/
import Derived.Test.YtfhaoamlagnpjaaDoorRows
import Derived.Test.YtfhaoamlagnpjaaDoorWd
import Derived.Test.YtfhaoamlagnpjaaDoorBytes
import Derived.Test.YtfhaoamlagnpjaaDoorShaJ
import Derived.Test.YtfhaoamlagnpjaaDoorShaK
import Derived.Test.YtfhaoamlagnpjaaDoorMac
import Derived.StillTailTactics
import Derived.Deep.RegionHeld3
set_option linter.unusedVariables false
set_option linter.unusedSimpArgs false
namespace Go.Proofs.YtfhaoamlagnpjaaDoor
open Go.RowKit Go.Lib
/-- "annals key", in bytes. -/
def keyWord : List UInt8 := [97, 110, 110, 97, 108, 115, 32, 107, 101, 121]
def keyIDL (name secret : List UInt8) : List UInt8 := (shaL (name ++ [10, 2] ++ macL secret keyWord)).take 4
theorem keyIDL_length (name secret : List UInt8) : (keyIDL name secret).length = 4 := by simp [keyIDL, shaL_length]
set_option maxRecDepth 100000 in
set_option maxHeartbeats 1000000 in
theorem keyID_any (name secret : ByteArray) (w : World) (hn : name.size ≤ 281474976710656) (hs : secret.size ≤ 562949953421312) (htab : TabOk w) (hbg : BeginOk w) :
    Calls Tryd.prog 39 #[.string name, .string secret] w fun e w' => e = .returned (.string ⟨(keyIDL name.data.toList secret.data.toList).toArray⟩) ∧ Below w.heap.size w w' := by
  have hm := mac_any secret ⟨#[97, 110, 110, 97, 108, 115, 32, 107, 101, 121]⟩ w (by omega) (by decide) htab hbg
  have HT := hide (And.intro htab hbg)
  clear htab hbg
  have hkw : Hid ((⟨#[97, 110, 110, 97, 108, 115, 32, 107, 101, 121]⟩ : ByteArray).data.toList = keyWord) := Lib.hid rfl
  have hlen := macL_length secret.data.toList (⟨#[97, 110, 110, 97, 108, 115, 32, 107, 101, 121]⟩ : ByteArray).data.toList
  go_enter Tryd.func39, Tryd.ntmps39
  go_wp2_with fail
  refine hm.mono ?_
  rintro e w1 ⟨rfl, hb1⟩
  obtain ⟨M, HM⟩ : ∃ M, Hid ((⟨(macL secret.data.toList (⟨#[97, 110, 110, 97, 108, 115, 32, 107, 101, 121]⟩ : ByteArray).data.toList).toArray⟩ : ByteArray) = M) := ⟨_, Lib.hid rfl⟩
  have hMs : M.size = 32 := by rw [← HM.out]; simpa [ByteArray.size] using hlen
  rw [HM.out]
  have hs1 := sum_any (name ++ ⟨#[10, 2]⟩ ++ M) w1 (by rw [ByteArray.size_append, ByteArray.size_append, show (⟨#[10, 2]⟩ : ByteArray).size = 2 from rfl]; omega) ((unhide HT).1.below hb1 (unhide HT).1.lt) ((unhide HT).2.below hb1 (unhide HT).2.lt)
  have hsz := shaB_size (name ++ ⟨#[10, 2]⟩ ++ M)
  have H1 := hide hb1; clear hb1 hm hlen
  go_wp2_with fail
  refine hs1.mono ?_
  rintro e w2 ⟨rfl, hb2⟩
  clear hs1
  go_wp2_with fail
  go_ret
  refine ⟨ret_str ?_, (unhide H1).trans (hb2.mono (unhide H1).size)⟩
  apply ByteArray.ext
  apply Array.ext'
  rw [show (shaB (name ++ ⟨#[10, 2]⟩ ++ M)).extract 0 4 = (shaB (name ++ ⟨#[10, 2]⟩ ++ M)).extract 0 4 from rfl, extract_list _ _ _ (by rw [hsz]; decide)]
  simp only [keyIDL, shaB, List.drop_zero, Nat.sub_zero, ByteArray.data_append, Array.toList_append, ← HM.out, hkw.out]
theorem xor_in (a b : UInt8) : 0 ≤ bits .xor .u8 (a.toNat : Int) (b.toNat : Int) ∧ bits .xor .u8 (a.toNat : Int) (b.toNat : Int) < 256 := by
  rw [u8_xor]
  have := (a ^^^ b).toNat_lt
  omega
theorem xor_back (a b : UInt8) : (bits .xor .u8 (a.toNat : Int) (b.toNat : Int)).toNat.toUInt8 = a ^^^ b := by
  rw [u8_xor, Int.toNat_natCast]
  simp
theorem keyK_take (k2 : ByteArray) (x : UInt8) (k : Nat) (c : UInt8) (h64 : k2.size ≤ 64) (hk : k < 64) (hc : c = if h : k < k2.size then k2[k] else 0) :
    ((keyK k2.data.toList).map (· ^^^ x)).take (k + 1) = ((keyK k2.data.toList).map (· ^^^ x)).take k ++ [c ^^^ x] := by
  have hl : (keyK k2.data.toList).length = 64 := keyK_length (by simpa using h64)
  have hkm : k < ((keyK k2.data.toList).map (· ^^^ x)).length := by simpa [hl] using hk
  rw [List.take_succ_eq_append_getElem hkm]
  congr 2
  rw [List.getElem_map]
  congr 1
  rw [hc]
  simp only [keyK]
  split
  · rename_i h
    rw [List.getElem_append_left (by simpa using h)]
    simp [ByteArray.getElem_eq_getElem_data]
  · rename_i h
    rw [List.getElem_append_right (by simpa using h)]
    simp
set_option maxRecDepth 100000 in
set_option maxHeartbeats 1000000 in
theorem keyed_any (key : ByteArray) (x : UInt8) (w : World) (hk : key.size ≤ 35184372088832) (htab : TabOkR w) (hf : FirstOk w) :
    Calls Tryd.prog 98 #[.string key, .int .u8 (x.toNat : Int)] w fun e w' => e = .returned (.string ⟨((keyK (keyS key.data.toList)).map (· ^^^ x)).toArray⟩) ∧ Below w.heap.size w w' := by
  have hx : (bits .xor .u8 0 (x.toNat : Int)) = ((0 ^^^ x).toNat : Int) := u8_xor 0 x
  rcases Nat.lt_or_ge 64 key.size with h64 | h64
  · have hs := rsum_any key w hk htab hf
    clear htab hf
    go_enter Tryd.func98, Tryd.ntmps98
    go_wp2_with fail
    refine hs.mono ?_
    rintro e w0 ⟨rfl, hb0⟩
    have hkS : Hid (keyS key.data.toList = (shaB key).data.toList) := Lib.hid (by unfold keyS; rw [if_neg (by simpa using h64)]; rfl)
    have hk2 : (shaB key).size ≤ 64 := by rw [shaB_size]; omega
    obtain ⟨k2, Hk2⟩ : ∃ k, Hid (shaB key = k) := ⟨_, Lib.hid rfl⟩
    rw [Hk2.out] at hk2 hkS ⊢
    have Hb0 := hide hb0
    clear hb0 hs
    go_wp2_with fail
    go_loopw [5, 6] (fun b i wr => ∃ k : Nat, k ≤ 64 ∧ i = .int .i64 k ∧ OwnB wr w.heap.size b (((keyK k2.data.toList).map (· ^^^ x)).take k) ∧ Below w.heap.size w wr) (fun _ i _ => 64 - (intOf i).toNat)
    case atStart => exact ⟨0, by omega, rfl, OwnB.nil _ _, unhide Hb0⟩
    case round =>
      obtain ⟨k, hk, rfl, hO, hb⟩ := hrel
      rcases Nat.lt_or_ge k 64 with hlt | hge
      · have Hx := hide (And.intro hO hb); clear hO hb
        have hlen : (((keyK k2.data.toList).map (· ^^^ x)).take k).length + 1 ≤ 140737488355328 := by simp; omega
        rcases Nat.lt_or_ge k k2.size with hlk | hlk
        · go_wp2_with (first | (at_builtin; refine wpList_app1 wr rfl (.tmp 24) (.tmp 28) rfl (unhide Hx).1 rfl rfl (xor_in _ _).1 (xor_in _ _).2 hlen (unhide Hx).2.size ?_; intro v' w' hO' hg hat; have HO' := hide (And.intro hO' (And.intro hg hat)); clear hO' hg hat))
          go_roundw
          case rel =>
            obtain ⟨hO', hg, hat⟩ := unhide HO'
            obtain ⟨hO, hb⟩ := unhide Hx
            rw [xor_back] at hO'
            refine ⟨k + 1, by omega, by go_num, ?_, (hb.alloc hb.size _).grown hg (by simp; have := hb.size; omega) (fun k hk => (hO.lt k hk).1)⟩
            rw [keyK_take k2 x k k2[k] hk2 hlt (by rw [dif_pos hlk])]
            exact hO'
          case measure => simp [intOf]; omega
        · go_wp2_with (first | (at_builtin; refine wpList_app1 wr rfl (.tmp 24) (.tmp 28) rfl (unhide Hx).1 rfl rfl (Int.natCast_nonneg _) (by have := x.toNat_lt; omega) hlen (unhide Hx).2.size ?_; intro v' w' hO' hg hat; have HO' := hide (And.intro hO' (And.intro hg hat)); clear hO' hg hat))
          go_roundw
          case rel =>
            obtain ⟨hO', hg, hat⟩ := unhide HO'
            obtain ⟨hO, hb⟩ := unhide Hx
            refine ⟨k + 1, by omega, by go_num, ?_, (hb.alloc hb.size _).grown hg (by simp; have := hb.size; omega) (fun k hk => (hO.lt k hk).1)⟩
            rw [keyK_take k2 x k 0 hk2 hlt (by rw [dif_neg (by omega)])]
            simpa using hO'
          case measure => simp [intOf]; omega
      · have hcv := conv_own hO
        have Hx := hide hb; clear hb hO
        go_wp2_with fail
        go_ret
        refine ⟨ret_str ?_, unhide Hx⟩
        rw [hkS.out, List.take_of_length_le (by rw [List.length_map, keyK_length (by simpa using hk2)]; exact hge)]
  · obtain ⟨k2, rfl⟩ : ∃ k, k = key := ⟨_, rfl⟩
    have hkS : Hid (keyS k2.data.toList = k2.data.toList) := Lib.hid (by unfold keyS; rw [if_pos (by simpa using h64)])
    have hk2 : k2.size ≤ 64 := h64
    have Hb0 := hide (Below.refl w.heap.size w)
    clear htab hf
    go_enter Tryd.func98, Tryd.ntmps98
    go_wp2_with fail
    go_loopw [5, 6] (fun b i wr => ∃ k : Nat, k ≤ 64 ∧ i = .int .i64 k ∧ OwnB wr w.heap.size b (((keyK k2.data.toList).map (· ^^^ x)).take k) ∧ Below w.heap.size w wr) (fun _ i _ => 64 - (intOf i).toNat)
    case atStart => exact ⟨0, by omega, rfl, OwnB.nil _ _, unhide Hb0⟩
    case round =>
      obtain ⟨k, hk, rfl, hO, hb⟩ := hrel
      rcases Nat.lt_or_ge k 64 with hlt | hge
      · have Hx := hide (And.intro hO hb); clear hO hb
        have hlen : (((keyK k2.data.toList).map (· ^^^ x)).take k).length + 1 ≤ 140737488355328 := by simp; omega
        rcases Nat.lt_or_ge k k2.size with hlk | hlk
        · go_wp2_with (first | (at_builtin; refine wpList_app1 wr rfl (.tmp 24) (.tmp 28) rfl (unhide Hx).1 rfl rfl (xor_in _ _).1 (xor_in _ _).2 hlen (unhide Hx).2.size ?_; intro v' w' hO' hg hat; have HO' := hide (And.intro hO' (And.intro hg hat)); clear hO' hg hat))
          go_roundw
          case rel =>
            obtain ⟨hO', hg, hat⟩ := unhide HO'
            obtain ⟨hO, hb⟩ := unhide Hx
            rw [xor_back] at hO'
            refine ⟨k + 1, by omega, by go_num, ?_, (hb.alloc hb.size _).grown hg (by simp; have := hb.size; omega) (fun k hk => (hO.lt k hk).1)⟩
            rw [keyK_take k2 x k k2[k] hk2 hlt (by rw [dif_pos hlk])]
            exact hO'
          case measure => simp [intOf]; omega
        · go_wp2_with (first | (at_builtin; refine wpList_app1 wr rfl (.tmp 24) (.tmp 28) rfl (unhide Hx).1 rfl rfl (Int.natCast_nonneg _) (by have := x.toNat_lt; omega) hlen (unhide Hx).2.size ?_; intro v' w' hO' hg hat; have HO' := hide (And.intro hO' (And.intro hg hat)); clear hO' hg hat))
          go_roundw
          case rel =>
            obtain ⟨hO', hg, hat⟩ := unhide HO'
            obtain ⟨hO, hb⟩ := unhide Hx
            refine ⟨k + 1, by omega, by go_num, ?_, (hb.alloc hb.size _).grown hg (by simp; have := hb.size; omega) (fun k hk => (hO.lt k hk).1)⟩
            rw [keyK_take k2 x k 0 hk2 hlt (by rw [dif_neg (by omega)])]
            simpa using hO'
          case measure => simp [intOf]; omega
      · have hcv := conv_own hO
        have Hx := hide hb; clear hb hO
        go_wp2_with fail
        go_ret
        refine ⟨ret_str ?_, unhide Hx⟩
        rw [hkS.out, List.take_of_length_le (by rw [List.length_map, keyK_length (by simpa using hk2)]; exact hge)]
end Go.Proofs.YtfhaoamlagnpjaaDoor

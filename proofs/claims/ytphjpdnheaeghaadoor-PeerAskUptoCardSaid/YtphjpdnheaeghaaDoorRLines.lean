/-
  CONTRACTS of the document's answer for text: a text is parted into lines, and a number read.
-/
import Derived.Test.YtphjpdnheaeghaaDoorRows
import Derived.Test.YtphjpdnheaeghaaDoorWd
import Derived.Test.YtphjpdnheaeghaaDoorLines
import Derived.Test.YtphjpdnheaeghaaDoorUnDec
set_option linter.unusedVariables false
set_option linter.unusedSimpArgs false
namespace Go.Proofs.YtphjpdnheaeghaaDoor
open Go.RowKit Go.Lib
theorem rund_form (n : Int) (c : UInt8) (h : 48 ≤ c.toNat ∧ c.toNat ≤ 57) : wrap64 (wrap64 (10 * n) - ((c.toNat : Int) - 48)) = rundStep n c := by
  obtain ⟨k, hk⟩ := wrap64_mod (10 * n)
  unfold rundStep
  rw [if_pos h]
  exact wrap64_of _ _ k (by omega)
set_option maxRecDepth 100000 in
set_option maxHeartbeats 1000000 in
theorem rundec_any (s : ByteArray) (w : World) (hs : s.size ≤ 1099511627776) :
    Calls Tryd.prog 23 #[.string s] w fun e w' => e = .returned (undA s) ∧ w = w' := by
  by_cases h1 : 20 < s.size
  · have hres : Hid (undA s = .tuple #[.int .i64 0, .int .i64 42]) := undA_none (undV_size (.inr h1))
    have h3 : (20 : Int) < (s.size : Int) := by omega
    go_enter Tryd.func23, Tryd.ntmps23
    go_wp2_with fail
    go_ret2
    exact ⟨by rw [hres.out]; rfl, rfl⟩
  · have h3 : ¬ (20 : Int) < (s.size : Int) := by omega
    have h2 : s.size ≤ 20 := by omega
    have hll : s.data.toList.length = s.size := Array.length_toList
    clear h1
    go_enter Tryd.func23, Tryd.ntmps23
    go_wp2_with fail
    have hlo := rundL_lo s.data.toList
    have hde : ∀ z, decS z = s → -9223372036854775808 ≤ z → z ≤ 9223372036854775807 → rundL s.data.toList = z := fun z e h0 h1 => by
      have e' : s.data.toList = decL z := by rw [← e]; rfl
      rw [e', rundL_dec z h0 h1]
    have hrl : rundL s.data.toList = if s.data.toList.head? = some 45 then s.data.toList.foldl rundStep 0 else wrap64 (-(s.data.toList.foldl rundStep 0)) := rfl
    have HD0 := hide (And.intro hlo (And.intro hde hrl)); clear hlo hde hrl
    go_loopw [4, 5] (fun n i wr => ∃ k : Nat, k ≤ s.size ∧ i = .int .i64 k ∧ n = .int .i64 ((s.data.toList.take k).foldl rundStep 0) ∧ Hid (w = wr)) (fun _ i _ => s.size - (RowKit.intOf i).toNat)
    case atStart => exact ⟨0, by omega, rfl, rfl, Lib.hid rfl⟩
    case round =>
      obtain ⟨k, hk, rfl, rfl, hw⟩ := hrel
      obtain rfl := hw.out
      rcases Nat.lt_or_ge k s.size with hlt | hge
      · have hix : (s[k]'hlt).toNat < 256 := s[k].toNat_lt
        have hkl : k < s.data.toList.length := by omega
        have hnx : Hid ((s.data.toList.take (k + 1)).foldl rundStep 0 = rundStep ((s.data.toList.take k).foldl rundStep 0) s[k]) := by
          rw [Hid, List.take_succ_eq_append_getElem hkl, List.foldl_append]
          rfl
        generalize (s.data.toList.take k).foldl rundStep 0 = n at *
        have hlv : s[k].toNat < 256 := hix
        by_cases hr : 48 ≤ s[k].toNat ∧ s[k].toNat ≤ 57
        · have hfm := Lib.hid (rund_form n s[k] hr)
          have hc1 : (48 : Int) ≤ (s[k].toNat : Int) := by omega
          have hc2 : (s[k].toNat : Int) ≤ 57 := by omega
          go_wp2_with fail
          go_roundw
          case rel => exact ⟨k + 1, by omega, by go_num, by rw [hnx.out, ← hfm.out], Lib.hid trivial⟩
          case measure => simp [RowKit.intOf]; omega
        · have hrn : Hid (rundStep n s[k] = n) := by unfold rundStep; rw [Hid, if_neg hr]
          by_cases hc1 : 48 ≤ s[k].toNat
          · have hc1' : (48 : Int) ≤ (s[k].toNat : Int) := by omega
            have hc2 : ¬ (s[k].toNat : Int) ≤ 57 := by omega
            clear hr
            go_wp2_with fail
            go_roundw
            case rel => exact ⟨k + 1, by omega, by go_num, by rw [hnx.out, hrn.out], Lib.hid trivial⟩
            case measure => simp [RowKit.intOf]; omega
          · have hc1' : ¬ (48 : Int) ≤ (s[k].toNat : Int) := by omega
            clear hr
            go_wp2_with fail
            go_roundw
            case rel => exact ⟨k + 1, by omega, by go_num, by rw [hnx.out, hrn.out], Lib.hid trivial⟩
            case measure => simp [RowKit.intOf]; omega
      · obtain rfl : k = s.size := by omega
        have hta : Hid (s.data.toList.take s.size = s.data.toList) := List.take_of_length_le (by omega)
        rw [hta.out]
        obtain ⟨hlo, hde, hrl⟩ := unhide HD0
        have hfin : ∀ z, Hid (rundL s.data.toList = z) → Calls Tryd.prog 15 #[.int .i64 z] w fun e w' => e = .returned (.string (decS z)) ∧ w = w' := fun z hz => rdec_any z w (by rw [← hz.out]; exact hlo.1) (by rw [← hz.out]; exact hlo.2)
        have hund : ∀ z, Hid (rundL s.data.toList = z) → Hid (undV s = if decS z = s then some z else none) := fun z hz => undV_back (by rw [← hz.out]; exact hlo.1) (by rw [← hz.out]; exact hlo.2) (fun y h0 h1 e => hz.out.symm.trans (hde y e h0 h1))
        have HF := hide hfin; have HU := hide hund; have HR := Lib.hid hrl; clear hfin hund hrl hlo hde HD0
        generalize s.data.toList.foldl rundStep 0 = n at *
        rcases Nat.eq_zero_or_pos s.size with h0 | h0
        · have hz : Hid (rundL s.data.toList = wrap64 (-n)) := by
            have : s.data.toList = [] := List.eq_nil_of_length_eq_zero (by omega)
            rw [Hid, HR.out, this]; rfl
          have h00 : ((s.size : Int) == 0) = true := by rw [h0]; rfl
          go_wp2_with fail
          refine (unhide HF _ hz).mono ?_
          rintro e w1 ⟨rfl, rfl⟩
          have huv := unhide HU _ hz
          obtain ⟨D, HDe⟩ : ∃ D, Hid (decS (wrap64 (-n)) = D) := ⟨_, Lib.hid rfl⟩
          rw [HDe.out] at huv ⊢
          have HUV := hide huv; clear huv
          by_cases he : D = s
          · have hres : Hid (undA s = .tuple #[.int .i64 (wrap64 (-n)), .int .i64 0]) := undA_some (by rw [(unhide HUV).out, if_pos he])
            subst he
            go_wp2_with fail
            go_ret2
            exact ⟨by rw [hres.out]; rfl, rfl⟩
          · have hres : Hid (undA s = .tuple #[.int .i64 0, .int .i64 42]) := undA_none (by rw [(unhide HUV).out, if_neg he])
            have he' := toList_ne he
            go_wp2_with fail
            go_ret2
            exact ⟨by rw [hres.out]; rfl, rfl⟩
        · have hix : (s[0]'h0).toNat < 256 := s[0].toNat_lt
          have hhd : s.data.toList.head? = some s[0] := by
            rw [List.head?_eq_getElem?, List.getElem?_eq_getElem (by omega)]
            rfl
          have hne : ¬ s = ByteArray.empty := fun e => by rw [e] at h0; exact absurd h0 (by decide)
          have hz0 : ((s.size : Int) == 0) = false := by rw [beq_eq_false_iff_ne]; omega
          by_cases hm : s[0] = 45
          · have hz : Hid (rundL s.data.toList = n) := by rw [Hid, HR.out, hhd, hm]; rfl
            have hmm : ((s[0].toNat : Int) == 45) = true := by rw [hm]; rfl
            clear hhd
            go_wp2_with fail
            refine (unhide HF _ hz).mono ?_
            rintro e w1 ⟨rfl, rfl⟩
            have huv := unhide HU _ hz
            obtain ⟨D, HDe⟩ : ∃ D, Hid (decS n = D) := ⟨_, Lib.hid rfl⟩
            rw [HDe.out] at huv ⊢
            have HUV := hide huv; clear huv
            by_cases he : D = s
            · have hres : Hid (undA s = .tuple #[.int .i64 n, .int .i64 0]) := undA_some (by rw [(unhide HUV).out, if_pos he])
              subst he
              go_wp2_with fail
              go_ret2
              exact ⟨by rw [hres.out]; rfl, rfl⟩
            · have hres : Hid (undA s = .tuple #[.int .i64 0, .int .i64 42]) := undA_none (by rw [(unhide HUV).out, if_neg he])
              have he' := toList_ne he
              go_wp2_with fail
              go_ret2
              exact ⟨by rw [hres.out]; rfl, rfl⟩
          · have hz : Hid (rundL s.data.toList = wrap64 (-n)) := by
              rw [Hid, HR.out, hhd, if_neg (fun e => hm (Option.some.inj e))]
            have hmm : ((s[0].toNat : Int) == 45) = false := by
              rw [beq_eq_false_iff_ne]
              exact fun e => hm (UInt8.toNat_inj.1 (by rw [show (45 : UInt8).toNat = 45 from rfl]; omega))
            clear hhd
            go_wp2_with fail
            refine (unhide HF _ hz).mono ?_
            rintro e w1 ⟨rfl, rfl⟩
            have huv := unhide HU _ hz
            obtain ⟨D, HDe⟩ : ∃ D, Hid (decS (wrap64 (-n)) = D) := ⟨_, Lib.hid rfl⟩
            rw [HDe.out] at huv ⊢
            have HUV := hide huv; clear huv
            by_cases he : D = s
            · have hres : Hid (undA s = .tuple #[.int .i64 (wrap64 (-n)), .int .i64 0]) := undA_some (by rw [(unhide HUV).out, if_pos he])
              subst he
              go_wp2_with fail
              go_ret2
              exact ⟨by rw [hres.out]; rfl, rfl⟩
            · have hres : Hid (undA s = .tuple #[.int .i64 0, .int .i64 42]) := undA_none (by rw [(unhide HUV).out, if_neg he])
              have he' := toList_ne he
              go_wp2_with fail
              go_ret2
              exact ⟨by rw [hres.out]; rfl, rfl⟩
end Go.Proofs.YtphjpdnheaeghaaDoor

/-
  CONTRACT of the document's Words.
-/
import Derived.Test.YtnkioabdpploeaaGreatDoorRows
import Derived.Test.YtnkioabdpploeaaGreatDoorGBase
import Derived.Test.YtnkioabdpploeaaGreatDoorGLns
import Derived.Test.YtnkioabdpploeaaGreatDoorSRUnesc
import Derived.Test.YtnkioabdpploeaaGreatDoorSTWords
set_option linter.unusedVariables false
set_option linter.unusedSimpArgs false
namespace Go.Proofs.YtnkioabdpploeaaGreatDoor
open Go.RowKit Go.Lib
def wlR (l : List UInt8) (k : Nat) : Option (List ByteArray) := wlO ((splL 32 (l.drop k)).map bsL)
set_option maxRecDepth 100000 in
set_option maxHeartbeats 4000000 in
theorem rtwords_any (s : ByteArray) (w : World) (hs : s.size ≤ 1099511627776) :
    Calls Tryz.prog 25 #[.string s] w fun e w' => WdsR w' w.heap.size s e ∧ Below w.heap.size w w' := by
  by_cases h0 : s = ⟨#[]⟩
  · have hr : wdsL s = some [] := by unfold wdsL; rw [if_pos h0]
    subst h0
    go_enter Tryz.func25, Tryz.ntmps25
    go_wp2_with fail
    go_loopw [4, 6] (fun o i W => o = .slice none 0 0 ∧ i = .int .i64 0 ∧ W = w) (fun _ _ _ => 0)
    case atStart => exact ⟨rfl, rfl, rfl⟩
    case round =>
      obtain ⟨rfl, rfl, rfl⟩ := hrel
      go_wp2_with fail
      go_ret2
      exact ⟨.inl ⟨[], _, hr, rfl, OwnT.nil _ _⟩, Below.refl _ _⟩
  · have hp2 : (s.toList == []) = false := by
      have h := toList_ne (b := ⟨#[]⟩) h0
      rwa [show (⟨#[]⟩ : ByteArray).toList = [] from by kernel_rfl] at h
    have hp1 : ¬ s.toList = [] := by rw [beq_eq_false_iff_ne] at hp2; exact hp2
    have hp3 : s.toList.isEmpty = false := by cases hh : s.toList with | nil => exact absurd hh hp1 | cons _ _ => rfl
    obtain ⟨l, hl⟩ : ∃ l, Hid (s.data.toList = l) := ⟨_, Lib.hid rfl⟩
    have hll : Hid (l.length = s.size) := Lib.hid (by rw [← hl.out]; exact Array.length_toList)
    have hres : Hid (wdsL s = wlR l 0) := Lib.hid (by unfold wdsL wlR; rw [if_neg h0, hl.out, List.drop_zero])
    clear h0
    go_enter Tryz.func25, Tryz.ntmps25
    go_wp2_with fail
    go_loopw [4, 5, 6, 7, 8] (fun o f i _ _ W => ∃ (from_ k : Nat) (acc : List ByteArray), f = .int .i64 (from_ : Int) ∧ i = .int .i64 (k : Int) ∧ k ≤ s.size + 1 ∧ from_ ≤ k ∧ Hid (acc.length ≤ from_) ∧ Hid ((k ≤ s.size ∧ (wlR l from_).map (acc ++ ·) = wlR l 0 ∧ ∀ j (hj : j < l.length), from_ ≤ j → j < k → l[j] ≠ 32) ∨ (k = s.size + 1 ∧ wlR l 0 = some acc)) ∧ OwnT W w.heap.size o acc ∧ Below w.heap.size w W) (fun _ _ i _ _ _ => s.size + 1 - (RowKit.intOf i).toNat)
    case atStart => exact ⟨0, 0, [], rfl, rfl, by omega, by omega, Lib.hid (by simp), Lib.hid (.inl ⟨by omega, by simp, fun j _ h1 h2 => by omega⟩), OwnT.nil _ _, Below.refl _ _⟩
    case round =>
      obtain ⟨from_, k, acc, rfl, rfl, hk, hfk, hal, hI, hO, hb⟩ := hrel
      rcases Nat.lt_or_ge s.size k with hgt | hle
      · have t1 : ¬ (k : Int) ≤ (s.size : Int) := by omega
        have hr : Hid (wdsL s = some acc) := Lib.hid (by
          rcases hI.out with h | h
          · omega
          · rw [hres.out, h.2])
        obtain ⟨Ao, co, rfl, -⟩ := id (ownT_strs hO)
        have HX := hide (And.intro hO hb)
        clear hO hb hI
        go_wp2_with fail
        go_ret2
        exact ⟨.inl ⟨acc, _, hr.out, rfl, (unhide HX).1⟩, (unhide HX).2⟩
      · have t1 : (k : Int) ≤ (s.size : Int) := by omega
        have t0 : (0 : Int) ≤ (k : Int) := by omega
        have tf : (0 : Int) ≤ (from_ : Int) := by omega
        have tfk : (from_ : Int) ≤ (k : Int) := by omega
        have hI1 : Hid ((wlR l from_).map (acc ++ ·) = wlR l 0) := Lib.hid (by
          rcases hI.out with h | h
          · exact h.2.1
          · omega)
        have hI0 : Hid (∀ j (hj : j < l.length), from_ ≤ j → j < k → l[j] ≠ 32) := Lib.hid (by
          rcases hI.out with h | h
          · exact h.2.2
          · omega)
        have HX := hide (And.intro hO hb); clear hO hb hI
        by_cases hskip : ∃ h : k < s.size, s[k] ≠ 32
        · obtain ⟨hlt, hc⟩ := hskip
          have t2 : (k : Int) < (s.size : Int) := by omega
          have q1 : ((s[k].toNat : Int) == 32) = false := by
            rw [beq_eq_false_iff_ne]; exact fun e => hc (UInt8.toNat_inj.1 (by show s[k].toNat = 32; omega))
          have q2 : ¬ (s[k].toNat : Int) = 32 := by rw [beq_eq_false_iff_ne] at q1; exact q1
          have hn0 : Hid (∀ j (hj : j < l.length), from_ ≤ j → j < k + 1 → l[j] ≠ 32) := Lib.hid (fun j hj h1 h2 => by
            rcases Nat.lt_succ_iff_lt_or_eq.1 h2 with h' | rfl
            · exact hI0.out j hj h1 h'
            · have h := hl.out; subst h; exact hc)
          clear hc
          go_wp2_with fail
          refine ⟨⟨from_, k + 1, acc, rfl, by go_num, by omega, by omega, hal, Lib.hid (.inl ⟨by omega, hI1.out, hn0.out⟩), (unhide HX).1, (unhide HX).2⟩, by simp [RowKit.intOf]; omega⟩
        · have hseg : Hid (s.extract from_ k = bsL (segL l from_ k)) := Lib.hid (by rw [ext_seg s from_ k hfk hle, hl.out])
          have hz : (s.extract from_ k).size ≤ 1099511627776 := by
            rw [hseg.out]; show (segL l from_ k).toArray.size ≤ _
            rw [List.size_toArray]; unfold segL; rw [List.length_take]; omega
          have hun := fun W => runesc_any (s.extract from_ k) W hz
          have hsp : Hid (splL 32 (l.drop from_) = segL l from_ k :: (if k < s.size then splL 32 (l.drop (k + 1)) else [])) := Lib.hid (by
            split
            · rename_i h
              have hc : s[k] = 32 := Decidable.byContradiction fun hc => hskip ⟨h, hc⟩
              refine splL_step 32 l from_ k hfk (by have := hll.out; omega) (by have h := hl.out; subst h; exact hc) (fun j hj h1 h2 => hI0.out j hj h1 h2)
            · rename_i h
              rw [splL_end 32 l from_ (fun j hj h1 => hI0.out j hj h1 (by have := hll.out; omega))]
              congr 1
              unfold segL
              rw [List.take_of_length_le]
              rw [List.length_drop]; have := hll.out; omega)
          have hI2 : Hid ((match unE (s.extract from_ k) with | none => none | some t => (wlO ((if k < s.size then splL 32 (l.drop (k + 1)) else []).map bsL)).map (fun y => acc ++ t :: y)) = wlR l 0) := Lib.hid (by
            rw [← hI1.out]
            unfold wlR
            rw [hsp.out, List.map_cons, wlO, ← hseg.out]
            cases unE (s.extract from_ k) with
            | none => rfl
            | some t => simp only [Option.map_map]; rfl)
          have hnext : Hid (∀ t : ByteArray, (wlO ((if k < s.size then splL 32 (l.drop (k + 1)) else []).map bsL)).map (fun y => acc ++ t :: y) = wlR l 0 → ((k + 1 ≤ s.size ∧ (wlR l (k + 1)).map ((acc ++ [t]) ++ ·) = wlR l 0 ∧ ∀ j (hj : j < l.length), k + 1 ≤ j → j < k + 1 → l[j] ≠ 32) ∨ (k + 1 = s.size + 1 ∧ wlR l 0 = some (acc ++ [t])))) := Lib.hid (fun t ht => by
            split at ht
            · rename_i h
              refine .inl ⟨by omega, ?_, fun j _ h1 h2 => by omega⟩
              rw [← ht]
              unfold wlR
              congr 1
              funext y
              simp
            · rename_i h
              refine .inr ⟨by omega, ?_⟩
              rw [← ht]
              simp [wlO])
          have HU := hide hun; clear hseg hsp hz hI0 hI1 hun
          cases hE : unE (s.extract from_ k) with
          | none =>
            have hI3 := hI2.out
            rw [hE] at hI3
            have hr : Hid (wdsL s = none) := Lib.hid (by rw [hres.out, ← hI3])
            have hv := unA_none hE
            have HV := Lib.hid hv
            clear hI2 hI3 hE hv
            rcases Nat.lt_or_ge k s.size with hlt | hge
            · have t2 : (k : Int) < (s.size : Int) := by omega
              have hc : s[k] = 32 := Decidable.byContradiction fun hc => hskip ⟨hlt, hc⟩
              have q1 : ((s[k].toNat : Int) == 32) = true := by rw [hc]; rfl
              have q2 : (s[k].toNat : Int) = 32 := by rw [hc]; rfl
              clear hskip hc
              go_wp2_with fail
              refine ((unhide HU) _).mono ?_
              rintro e2 w2 ⟨rfl, hb2⟩
              rw [HV.out]
              have H3 := hide ((unhide HX).2.trans (hb2.mono (unhide HX).2.size)); clear hb2 HU HX
              go_wp2_with fail
              go_ret2
              exact ⟨.inr ⟨hr.out, rfl⟩, unhide H3⟩
            · have t2 : ¬ (k : Int) < (s.size : Int) := by omega
              clear hskip
              go_wp2_with fail
              refine ((unhide HU) _).mono ?_
              rintro e2 w2 ⟨rfl, hb2⟩
              rw [HV.out]
              have H3 := hide ((unhide HX).2.trans (hb2.mono (unhide HX).2.size)); clear hb2 HU HX
              go_wp2_with fail
              go_ret2
              exact ⟨.inr ⟨hr.out, rfl⟩, unhide H3⟩
          | some t =>
            have hI3 := hI2.out
            rw [hE] at hI3
            have hv := unA_some hE
            have HV := Lib.hid hv
            have HI3 := Lib.hid hI3
            clear hI2 hE hv hI3
            rcases Nat.lt_or_ge k s.size with hlt | hge
            · have t2 : (k : Int) < (s.size : Int) := by omega
              have hc : s[k] = 32 := Decidable.byContradiction fun hc => hskip ⟨hlt, hc⟩
              have q1 : ((s[k].toNat : Int) == 32) = true := by rw [hc]; rfl
              have q2 : (s[k].toNat : Int) = 32 := by rw [hc]; rfl
              clear hskip hc
              go_wp2_with fail
              refine ((unhide HU) _).mono ?_
              rintro e2 w2 ⟨rfl, hb2⟩
              rw [HV.out]
              have hO2 := (unhide HX).1.below hb2
              have hbb := (unhide HX).2.trans (hb2.mono (unhide HX).2.size)
              have H3 := hide (And.intro hO2 hbb); clear hb2 HU HX hO2 hbb
              have hbase : Hid (w.heap.size ≤ w2.heap.size) := Lib.hid (unhide H3).2.size
              go_wp2_with (first | (at_builtin; refine wpList_appT1 w2 rfl _ _ rfl (unhide H3).1 rfl rfl (by have := hal.out; omega) hbase.out ?_; intro v1 w3 hO1 hg1 hat1; have H4 := hide (And.intro hO1 (appT_below (unhide H3).2 (unhide H3).1 (unhide H3).2.size hg1)); clear hO1 hg1 hat1))
              refine ⟨⟨k + 1, k + 1, acc ++ [t], by go_num, by go_num, by omega, by omega, Lib.hid (by have := hal.out; simp; omega), Lib.hid (hnext.out t HI3.out), (unhide H4).1, (unhide H4).2⟩, by simp [RowKit.intOf]; omega⟩
            · have t2 : ¬ (k : Int) < (s.size : Int) := by omega
              clear hskip
              go_wp2_with fail
              refine ((unhide HU) _).mono ?_
              rintro e2 w2 ⟨rfl, hb2⟩
              rw [HV.out]
              have hO2 := (unhide HX).1.below hb2
              have hbb := (unhide HX).2.trans (hb2.mono (unhide HX).2.size)
              have H3 := hide (And.intro hO2 hbb); clear hb2 HU HX hO2 hbb
              have hbase : Hid (w.heap.size ≤ w2.heap.size) := Lib.hid (unhide H3).2.size
              go_wp2_with (first | (at_builtin; refine wpList_appT1 w2 rfl _ _ rfl (unhide H3).1 rfl rfl (by have := hal.out; omega) hbase.out ?_; intro v1 w3 hO1 hg1 hat1; have H4 := hide (And.intro hO1 (appT_below (unhide H3).2 (unhide H3).1 (unhide H3).2.size hg1)); clear hO1 hg1 hat1))
              refine ⟨⟨k + 1, k + 1, acc ++ [t], by go_num, by go_num, by omega, by omega, Lib.hid (by have := hal.out; simp; omega), Lib.hid (hnext.out t HI3.out), (unhide H4).1, (unhide H4).2⟩, by simp [RowKit.intOf]; omega⟩
end Go.Proofs.YtnkioabdpploeaaGreatDoor

/-
  CONTRACTS of package note and of the document's answer for it: goes.
-/
import Derived.Test.YtfhaoamlagnpjaaDoorRows
import Derived.Test.YtfhaoamlagnpjaaDoorWd
import Derived.Test.YtfhaoamlagnpjaaDoorShelf
import Derived.Test.YtfhaoamlagnpjaaDoorWholeP
import Derived.Test.YtfhaoamlagnpjaaDoorWhole
import Derived.Test.YtfhaoamlagnpjaaDoorRWhole
set_option linter.unusedVariables false
set_option linter.unusedSimpArgs false
namespace Go.Proofs.YtfhaoamlagnpjaaDoor
open Go.RowKit Go.Lib
/-- Can a note have this text? -/
def goesV (s : ByteArray) : Bool := decide (s.data.toList.getLast? = some 10) && wholeP true s 0
theorem hasSuffix_nl (l : List UInt8) : Lib.hasSuffix l [10] = decide (l.getLast? = some 10) := by
  rw [Bool.eq_iff_iff, decide_eq_true_eq, List.getLast?_eq_some_iff]
  unfold Lib.hasSuffix
  rw [List.isSuffixOf_iff_suffix]
  constructor
  · rintro ⟨t, ht⟩
    exact ⟨t, ht.symm⟩
  · rintro ⟨t, ht⟩
    exact ⟨t, ht.symm⟩
set_option maxRecDepth 100000 in
theorem goes_any (s : ByteArray) (w : World) (hs : s.size ≤ 1099511627776) (hT : Lib.Utf8Tabs 3 4 w) :
    Calls Tryd.prog 58 #[.string s] w fun e w' => e = .returned (.bool (goesV s)) ∧ Below w.heap.size w w' := by
  have hsu := Tryd.strings_HasSuffix s ⟨#[10]⟩ w (by omega)
  have hwh := whole_any true s w (by simp only [maxLen]; omega) hT
  have HSU := hide hsu; have HWH := hide hwh; clear hsu hwh hT
  by_cases h : s.data.toList.getLast? = some 10
  · have hv : Hid (goesV s = wholeP true s 0) := by unfold goesV; rw [Hid, decide_eq_true h, Bool.true_and]
    have hx : Hid (Lib.hasSuffix s.data.toList [10] = true) := by rw [Hid, hasSuffix_nl, decide_eq_true h]
    clear h
    go_enter Tryd.func58, Tryd.ntmps58
    go_wp2_with fail
    refine (unhide HSU).mono ?_
    rintro e w1 ⟨rfl, rfl⟩
    rw [hx.out]
    go_wp2_with fail
    refine (unhide HWH).mono ?_
    rintro e w2 ⟨rfl, hb⟩
    go_wp2_with fail
    go_ret
    exact ⟨by rw [hv.out]; rfl, hb⟩
  · have hv : Hid (goesV s = false) := by unfold goesV; rw [Hid, decide_eq_false h, Bool.false_and]
    have hx : Hid (Lib.hasSuffix s.data.toList [10] = false) := by rw [Hid, hasSuffix_nl, decide_eq_false h]
    clear h
    go_enter Tryd.func58, Tryd.ntmps58
    go_wp2_with fail
    refine (unhide HSU).mono ?_
    rintro e w1 ⟨rfl, rfl⟩
    rw [hx.out]
    go_wp2_with fail
    go_ret
    exact ⟨by rw [hv.out]; rfl, Below.refl _ _⟩
set_option maxRecDepth 100000 in
theorem rgoes_any (s : ByteArray) (w : World) (hs : s.size ≤ 1099511627776) :
    Calls Tryd.prog 62 #[.string s] w fun e w' => e = .returned (.bool (goesV s)) ∧ Below w.heap.size w w' := by
  have hll : s.data.toList.length = s.size := Array.length_toList
  have hpl := rplain_any true s w (by simp only [maxLen]; omega)
  have hwh := fun W => rwhole_any s W (by omega)
  have HPL := hide hpl; have HWH := hide hwh; clear hpl hwh
  rcases Nat.eq_zero_or_pos s.size with h0 | h0
  · have h00 : ((s.size : Int) == 0) = true := by rw [h0]; rfl
    have hv : Hid (goesV s = false) := by
      have : s.data.toList = [] := List.eq_nil_of_length_eq_zero (by omega)
      unfold goesV; rw [Hid, this]; rfl
    go_enter Tryd.func62, Tryd.ntmps62
    go_wp2_with fail
    go_ret
    exact ⟨by rw [hv.out]; rfl, Below.refl _ _⟩
  · have h00 : ((s.size : Int) == 0) = false := by rw [beq_eq_false_iff_ne]; omega
    have hlt : s.size - 1 < s.size := by omega
    have hix : (s[s.size - 1]'hlt).toNat < 256 := s[s.size - 1].toNat_lt
    have hm1 : (s.size : Int) - 1 = ((s.size - 1 : Nat) : Int) := by omega
    have hgl : Hid (s.data.toList.getLast? = some s[s.size - 1]) := by
      rw [Hid, List.getLast?_eq_getElem?, hll, List.getElem?_eq_getElem (by omega)]
      rfl
    by_cases hc : s[s.size - 1] = 10
    · have hcc : ((s[s.size - 1].toNat : Int) == 10) = true := by rw [hc]; rfl
      have hv : Hid (goesV s = (plainB true s 0 && validP s 0)) := by
        unfold goesV; rw [Hid, hgl.out, hc, decide_eq_true rfl, Bool.true_and, wholeP_eq]
      go_enter Tryd.func62, Tryd.ntmps62
      go_wp2_with fail
      refine (unhide HPL).mono ?_
      rintro e w1 ⟨rfl, rfl⟩
      go_wp2_with fail
      refine (unhide HWH _).mono ?_
      rintro e w2 ⟨rfl, hb⟩
      cases hp : plainB true s 0 with
      | false =>
        rw [hp] at hv
        go_wp2_with fail
        go_ret
        exact ⟨by rw [hv.out]; rfl, hb⟩
      | true =>
        rw [hp] at hv
        go_wp2_with fail
        go_ret
        exact ⟨by rw [hv.out]; rfl, hb⟩
    · have hcc : ((s[s.size - 1].toNat : Int) == 10) = false := by
        rw [beq_eq_false_iff_ne]
        exact fun e => hc (UInt8.toNat_inj.1 (by rw [show (10 : UInt8).toNat = 10 from rfl]; omega))
      have hv : Hid (goesV s = false) := by
        unfold goesV; rw [Hid, hgl.out, decide_eq_false (by simpa using hc), Bool.false_and]
      go_enter Tryd.func62, Tryd.ntmps62
      go_wp2_with fail
      go_ret
      exact ⟨by rw [hv.out]; rfl, Below.refl _ _⟩
end Go.Proofs.YtfhaoamlagnpjaaDoor

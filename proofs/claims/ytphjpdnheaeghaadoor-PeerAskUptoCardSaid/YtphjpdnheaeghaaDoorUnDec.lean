/-
  CONTRACTS of package text and of the document's answer for it: a number in decimal digits is read.
-/
import Derived.Test.YtphjpdnheaeghaaDoorRows
import Derived.Test.YtphjpdnheaeghaaDoorWd
import Derived.Test.YtphjpdnheaeghaaDoorEach
import Derived.Test.YtphjpdnheaeghaaDoorBytes
import Derived.Test.YtphjpdnheaeghaaDoorDec
import Derived.Test.YtphjpdnheaeghaaDoorCopyStr
import Derived.Test.YtphjpdnheaeghaaDoorUnDP
import Derived.StillTailTactics
import Derived.Deep.RegionHeld3
set_option linter.unusedVariables false
set_option linter.unusedSimpArgs false
namespace Go.Proofs.YtphjpdnheaeghaaDoor
open Go.RowKit Go.Lib
theorem toList_ne {a b : ByteArray} (h : ¬ a = b) : (a.toList == b.toList) = false := by
  rw [beq_eq_false_iff_ne, ByteArray.toList_eq, ByteArray.toList_eq]
  exact fun e => h (bs_eq e)
theorem undF_enters : Enters Tryd.prog 34 := enters_of Tryd.func34 (by kernel_rfl) rfl
theorem und_form (n : Int) (c : UInt8) : wrap64 (wrap64 (wrap64 (10 * n) + (c.toNat : Int)) - 48) = undStep n c := by
  obtain ⟨k, hk⟩ := wrap64_mod (10 * n)
  obtain ⟨j, hj⟩ := wrap64_mod (wrap64 (10 * n) + (c.toNat : Int))
  unfold undStep
  exact wrap64_of _ _ (k + j) (by omega)
set_option maxRecDepth 100000 in
theorem undF_any (c : UInt8) (g : Nat) (n : Int) (w : World) (hB : Blk w g 3 #[.int .i64 n]) :
    Calls Tryd.prog 34 #[.int .u8 (c.toNat : Int), .pointer (some ⟨g, 0, none⟩)] w fun e w' => e = .returned (.bool true) ∧ w' = w.setCell ⟨g, 0, none⟩ (.int .i64 (undStep n c)) := by
  have c0 := hB.cell 0
  have f0 := hB.frozen 0
  simp only [List.getElem?_toArray, List.getElem?_cons_zero] at c0
  have hc := c.toNat_lt
  have hfm := Lib.hid (und_form n c)
  clear hB
  go_enter Tryd.func34, Tryd.ntmps34
  go_wp2
  go_ret
  exact ⟨rfl, by rw [← hfm.out]⟩
/-- The number's box behind each byte. -/
def undBox (w : World) (g : Nat) (s : ByteArray) (k : Nat) (wi : World) : Prop := Blk wi g 3 #[.int .i64 ((s.data.toList.take k).foldl undStep 0)] ∧ Below g w wi
theorem undEach_any (s : ByteArray) (g : Nat) (w w0 : World) (hs : s.size ≤ maxLen) (hB : Blk w g 3 #[.int .i64 0]) (hb : Below g w0 w) :
    Calls Tryd.prog 33 #[.string s, .func (.func 34) #[] #[.pointer (some ⟨g, 0, none⟩)]] w fun e w' => e = .returned (.bool true) ∧ Blk w' g 3 #[.int .i64 (s.data.toList.foldl undStep 0)] ∧ Below g w0 w' := by
  refine (each_inv 34 #[.pointer (some ⟨g, 0, none⟩)] s (fun k wi => undBox w0 g s k wi) (fun b w' => b = true ∧ undBox w0 g s s.size w') w hs undF_enters ⟨hB, hb⟩ ?_ ?_).mono ?_
  · rintro k wi hk ⟨hBi, hbi⟩
    refine (undF_any s[k] g _ wi hBi).mono ?_
    rintro e w1 ⟨rfl, rfl⟩
    refine ⟨true, rfl, fun _ => ⟨?_, hbi.setCell (Nat.le_refl _) _⟩, fun h => by cases h⟩
    have h := hBi.set_ 0 (.int .i64 (undStep ((s.data.toList.take k).foldl undStep 0) s[k]))
    have hkl : k < s.data.toList.length := by rw [Array.length_toList]; exact hk
    rw [List.take_succ_eq_append_getElem hkl, List.foldl_append]
    have he : s.data.toList[k] = s[k] := rfl
    rw [he]
    exact h
  · exact fun wi h => ⟨rfl, h⟩
  · rintro e w' ⟨b, rfl, rfl, h1, h2⟩
    rw [List.take_of_length_le (by rw [Array.length_toList]; exact Nat.le_refl _)] at h1
    exact ⟨rfl, h1, h2⟩
/-- What UnDec answers. -/
def undA (s : ByteArray) : Value := match undV s with
  | some z => .tuple #[.int .i64 z, .int .i64 0]
  | none => .tuple #[.int .i64 0, .int .i64 42]
theorem undA_some {s : ByteArray} {z : Int} (h : undV s = some z) : undA s = .tuple #[.int .i64 z, .int .i64 0] := by unfold undA; rw [h]
theorem undA_none {s : ByteArray} (h : undV s = none) : undA s = .tuple #[.int .i64 0, .int .i64 42] := by unfold undA; rw [h]
theorem undV_is (s : ByteArray) (z : Int) (h : undL s.data.toList = z) : undV s = if decS z = s then some z else none := by subst h; rfl
set_option maxRecDepth 100000 in
set_option maxHeartbeats 1000000 in
theorem undec_any (s : ByteArray) (w : World) (hs : s.size ≤ 1099511627776) :
    Calls Tryd.prog 20 #[.string s] w fun e w' => e = .returned (undA s) ∧ Below w.heap.size w w' := by
  by_cases h1 : s.size = 0 ∨ 20 < s.size
  · have hres : Hid (undA s = .tuple #[.int .i64 0, .int .i64 42]) := undA_none (undV_size h1)
    rcases h1 with h1 | h1
    · go_enter Tryd.func20, Tryd.ntmps20
      go_wp2_with fail
      all_goals go_ret2
      all_goals exact ⟨by rw [hres.out]; rfl, Below.refl _ _⟩
    · have h2 : ¬ ((s.size : Int) = 0) := by omega
      have h3 : (20 : Int) < (s.size : Int) := by omega
      go_enter Tryd.func20, Tryd.ntmps20
      go_wp2_with fail
      all_goals go_ret2
      all_goals exact ⟨by rw [hres.out]; rfl, Below.refl _ _⟩
  · have h2 : 0 < s.size := by omega
    have h3 : s.size ≤ 20 := by omega
    have h4 : ¬ ((s.size : Int) = 0) := by omega
    clear h1
    have h5 : ¬ (20 : Int) < (s.size : Int) := by omega
    have hix : (s[0]'h2).toNat < 256 := s[0].toNat_lt
    have hne : ¬ s = ByteArray.empty := fun e => by rw [e] at h2; exact absurd h2 (by decide)
    have hl0 : s.data.toList = s[0] :: (s.extract 1 s.size).data.toList := by
      rw [bytes_extract _ _ _ (Nat.le_refl _), List.take_of_length_le (by simp)]
      exact (List.drop_eq_getElem_cons (l := s.data.toList) (i := 0) (by rw [Array.length_toList]; exact h2)) ▸ (by simp [ByteArray.getElem_eq_getElem_data])
    have HL0 := Lib.hid hl0; clear hl0
    by_cases hm : s[0] = 45
    · have hmm : ((s[0].toNat : Int) == 45) = true := by rw [hm]; rfl
      have hx := fun W h1 h2 => undEach_any (s.extract 1 s.size) w.heap.size W w (by simp only [maxLen]; rw [ByteArray.size_extract]; omega) h1 h2
      have HX := hide hx; clear hx
      have hu : undL s.data.toList = wrap64 (-((s.extract 1 s.size).data.toList.foldl undStep 0)) := by rw [HL0.out, hm]; rfl
      have hlo := undL_lo s.data.toList
      obtain ⟨z, hz⟩ : ∃ z, Hid (undL s.data.toList = z) := ⟨_, Lib.hid rfl⟩
      obtain ⟨y, hy⟩ : ∃ y, Hid ((s.extract 1 s.size).data.toList.foldl undStep 0 = y) := ⟨_, Lib.hid rfl⟩
      rw [hz.out, hy.out] at hu
      rw [hz.out] at hlo
      rw [hy.out] at HX
      have hd := fun W => dec_any z W hlo.1 hlo.2
      have HD := hide hd; clear hd
      have HU := Lib.hid hu; have HLO := hide hlo; clear hu hlo
      go_enter Tryd.func20, Tryd.ntmps20
      go_wp2_with fail
      refine (unhide HX _ (Blk.new _ _ _) ((Below.refl _ _).alloc (Nat.le_refl _) _)).mono ?_
      rintro e w1 ⟨rfl, hB1, hb1⟩
      have c0 := hB1.cell 0
      have f0 := hB1.frozen 0
      simp only [List.getElem?_toArray, List.getElem?_cons_zero] at c0
      have H1 := hide (And.intro hB1 hb1); clear hB1 hb1
      go_wp2_with fail
      have hB2 : Blk (w1.setCell ⟨w.heap.size, 0, none⟩ (.int .i64 z)) w.heap.size 3 #[.int .i64 z] := (unhide H1).1.set_ 0 (.int .i64 z)
      have hb2 : Below w.heap.size w (w1.setCell ⟨w.heap.size, 0, none⟩ (.int .i64 z)) := (unhide H1).2.setCell (Nat.le_refl _) _
      rw [← HU.out]
      refine (unhide HD _).mono ?_
      rintro e w2 ⟨rfl, hb3⟩
      have hB3 := hB2.below hb3 hB2.lt
      have hb3' := hb2.trans (hb3.mono hb2.size)
      have k0 := hB3.cell 0
      simp only [List.getElem?_toArray, List.getElem?_cons_zero] at k0
      have H3 := hide hb3'; clear hB2 hb2 hB3 hb3 hb3' c0 f0 H1
      have huv := undV_is s z hz.out
      have HUV := Lib.hid huv; clear huv
      obtain ⟨D, HDe⟩ : ∃ D, Hid (decS z = D) := ⟨_, Lib.hid rfl⟩
      rw [HDe.out] at HUV ⊢
      by_cases he : D = s
      · have hres : Hid (undA s = .tuple #[.int .i64 z, .int .i64 0]) := undA_some (by rw [HUV.out, if_pos he])
        subst he
        go_wp2_with fail
        go_ret2
        exact ⟨by rw [hres.out]; rfl, unhide H3⟩
      · have hres : Hid (undA s = .tuple #[.int .i64 0, .int .i64 42]) := undA_none (by rw [HUV.out, if_neg he])
        have he' := toList_ne he
        go_wp2_with fail
        go_ret2
        exact ⟨by rw [hres.out]; rfl, unhide H3⟩
    · have hmm : ((s[0].toNat : Int) == 45) = false := by
        simp only [beq_eq_false_iff_ne]
        intro e
        exact hm (UInt8.toNat_inj.1 (by rw [show (45 : UInt8).toNat = 45 from rfl]; omega))
      have hx := fun W h1 h2 => undEach_any s w.heap.size W w (by simp only [maxLen]; omega) h1 h2
      have HX := hide hx; clear hx
      have hu : undL s.data.toList = s.data.toList.foldl undStep 0 := undL_pos _ (by rw [HL0.out, List.head?_cons]; exact fun e => hm (Option.some.inj e))
      have hlo := undL_lo s.data.toList
      obtain ⟨z, hz⟩ : ∃ z, Hid (undL s.data.toList = z) := ⟨_, Lib.hid rfl⟩
      rw [hz.out] at hu
      rw [hz.out] at hlo
      rw [← hu] at HX
      have hd := fun W => dec_any z W hlo.1 hlo.2
      have HD := hide hd; clear hd hu hlo
      go_enter Tryd.func20, Tryd.ntmps20
      go_wp2_with fail
      refine (unhide HX _ (Blk.new _ _ _) ((Below.refl _ _).alloc (Nat.le_refl _) _)).mono ?_
      rintro e w1 ⟨rfl, hB1, hb1⟩
      have c0 := hB1.cell 0
      simp only [List.getElem?_toArray, List.getElem?_cons_zero] at c0
      have H1 := hide (And.intro hB1 hb1); clear hB1 hb1
      go_wp2_with fail
      have hB2 := (unhide H1).1
      have hb2 := (unhide H1).2
      refine (unhide HD _).mono ?_
      rintro e w2 ⟨rfl, hb3⟩
      have hB3 := hB2.below hb3 hB2.lt
      have hb3' := hb2.trans (hb3.mono hb2.size)
      have k0 := hB3.cell 0
      simp only [List.getElem?_toArray, List.getElem?_cons_zero] at k0
      have H3 := hide hb3'; clear hB2 hb2 hB3 hb3 hb3' c0 H1
      have huv := undV_is s z hz.out
      have HUV := Lib.hid huv; clear huv
      obtain ⟨D, HDe⟩ : ∃ D, Hid (decS z = D) := ⟨_, Lib.hid rfl⟩
      rw [HDe.out] at HUV ⊢
      by_cases he : D = s
      · have hres : Hid (undA s = .tuple #[.int .i64 z, .int .i64 0]) := undA_some (by rw [HUV.out, if_pos he])
        subst he
        go_wp2_with fail
        go_ret2
        exact ⟨by rw [hres.out]; rfl, unhide H3⟩
      · have hres : Hid (undA s = .tuple #[.int .i64 0, .int .i64 42]) := undA_none (by rw [HUV.out, if_neg he])
        have he' := toList_ne he
        go_wp2_with fail
        go_ret2
        exact ⟨by rw [hres.out]; rfl, unhide H3⟩
end Go.Proofs.YtphjpdnheaeghaaDoor

/-
  CONTRACTS of package sha: the sum of a text, whole.
-/
import Derived.Test.YtmkecanibedahaaDoorRows
import Derived.Test.YtmkecanibedahaaDoorWd
import Derived.Test.YtmkecanibedahaaDoorBytes
import Derived.Test.YtmkecanibedahaaDoorShaD
import Derived.Test.YtmkecanibedahaaDoorShaF
import Derived.Test.YtmkecanibedahaaDoorShaG
import Derived.Test.YtmkecanibedahaaDoorShaH
import Derived.Test.YtmkecanibedahaaDoorShaI
import Derived.StillTailTactics
import Derived.Deep.RegionHeld3
set_option linter.unusedVariables false
set_option linter.unusedSimpArgs false
namespace Go.Proofs.YtmkecanibedahaaDoor
open Go.RowKit Go.Lib
/-- SHA-256 of a text, in plain lists. -/
def shaL (m : List UInt8) : List UInt8 := out8 (stN shaInit ((m ++ padB m.length).length / 64) (m ++ padB m.length))
theorem shaL_length (m : List UInt8) : (shaL m).length = 32 := by
  rw [shaL, out8_length, stN_length rfl]
def shaB (s : ByteArray) : ByteArray := ⟨(shaL s.data.toList).toArray⟩
theorem shaB_size (s : ByteArray) : (shaB s).size = 32 := by
  have := shaL_length s.data.toList
  simpa [shaB, ByteArray.size] using this
theorem write_any (g : Nat) (m : List UInt8) (p : ByteArray) (w : World) (hm : m.length ≤ 1125899906842624) (hp : p.size ≤ 1125899906842624) (h : m.length % 64 = 0 ∨ 64 - m.length % 64 ≤ p.size) (htab : TabOk w) (hg : 3 < g) (hH : IsHash w g m) :
    Calls Tryd.prog 17 #[.pointer (some ⟨g, 0, none⟩), .string p] w fun e w' => e = .returned (.int .i64 p.size) ∧ IsHash w' g (m ++ p.data.toList) ∧ w.grownBy w' (some g) := by
  by_cases h0 : m.length % 64 = 0
  · exact write_A g m p w hm hp h0 htab hg hH
  · exact write_B g m p w (m.length % 64) hm hp rfl (by omega) (h.resolve_left h0) htab hg hH
theorem IsHash.below {B : Nat} {w w' : World} {g : Nat} {m : List UInt8} (h : IsHash w g m) (hb : Below B w w') (hg : g < B) : IsHash w' g m := by
  obtain ⟨rest, h1, h2, h3⟩ := h
  exact ⟨rest, h1, h2, h3.below hb hg⟩
theorem IsHash.drew {w : World} {g : Nat} {m : List UInt8} (h : IsHash w g m) : IsHash w.drew g m := h
theorem IsHash.lt {w : World} {g : Nat} {m : List UInt8} (h : IsHash w g m) : g < w.heap.size := by
  obtain ⟨rest, h1, h2, h3⟩ := h
  exact h3.lt
set_option maxRecDepth 100000 in
set_option maxHeartbeats 1000000 in
theorem hsum_any (g : Nat) (m : List UInt8) (w : World) (hm : m.length ≤ 562949953421312) (htab : TabOk w) (hH : IsHash w g m) :
    Calls Tryd.prog 18 #[.pointer (some ⟨g, 0, none⟩)] w fun e w' => e = .returned (.string ⟨(shaL m).toArray⟩) ∧ Below w.heap.size w w' := by
  have hc := copy_any g m w hH
  have HT := hide (And.intro htab hH); clear htab hH
  go_enter Tryd.func18, Tryd.ntmps18
  go_wp2_with fail
  refine hc.mono ?_
  rintro e w1 ⟨rfl, hH1, hb1⟩
  have hn : w1.cell? ⟨g, 72, none⟩ = some (.int .i64 (m.length : Nat)) := by
    obtain ⟨htab, rest, hr, ht, hB⟩ := unhide HT
    exact ((hB.below hb1 hB.lt).cell 72).trans (hash_n _ _ _ (stN_length rfl _ _) hr)
  have hp := padding_any m.length w1 (by omega)
  have H1 := hide (And.intro hH1 hb1); clear hH1 hb1 hc
  go_wp2_with fail
  refine hp.mono ?_
  rintro e w2 ⟨rfl, hb2⟩
  have hpad : (⟨(padB m.length).toArray⟩ : ByteArray).size = (padB m.length).length := by simp [ByteArray.size]
  have htab2 : TabOk w2 := ((unhide HT).1.below (unhide H1).2 (unhide HT).1.lt).below hb2 (Nat.lt_of_lt_of_le (unhide HT).1.lt (unhide H1).2.size)
  have hH2 : IsHash w2 w.heap.size m := (unhide H1).1.below hb2 (unhide H1).1.lt
  have hw := write_any w.heap.size m ⟨(padB m.length).toArray⟩ w2 (by omega) (by rw [hpad, padB_length]; omega) (by rw [hpad, padB_length]; omega) htab2 (unhide HT).1.lt hH2
  have H2 := hide (And.intro hb2 (And.intro htab2 hH2)); clear hb2 htab2 hH2 hp hn
  go_wp2_with fail
  refine hw.mono ?_
  rintro e w3 ⟨rfl, hH3, hg3⟩
  obtain ⟨rest, hr, ht, hB⟩ := hH3
  have htx := text_any 58 w.heap.size (stN shaInit ((m ++ padB m.length).length / 64) (m ++ padB m.length)) (byteCells rest ++ [Value.int .i64 (m ++ padB m.length).length]) w3 (stN_length rfl _ _) (stN_U32 shaInit_U32 _ _) hB
  have H3 := hide (And.intro hB (And.intro hg3 hr)); clear hB hg3 hr ht hw
  go_wp2_with fail
  refine htx.mono ?_
  rintro e w4 ⟨rfl, hb4⟩
  go_wp2_with fail
  go_ret
  refine ⟨ret_str (by simp [shaL]), ?_⟩
  have hbw2 : Below w.heap.size w w2 := (unhide H1).2.trans ((unhide H2).1.mono (unhide H1).2.size)
  have hg3 := (unhide H3).2.1
  have hbw3 : Below w.heap.size w w3 := hbw2.grown hg3 hbw2.size (fun k hk => by cases hk; exact Nat.le_refl _)
  exact hbw3.trans (hb4.mono hbw3.size)
set_option maxRecDepth 100000 in
set_option maxHeartbeats 1000000 in
/-- sha.Sum. -/
theorem sum_any (s : ByteArray) (w : World) (hs : s.size ≤ 562949953421312) (htab : TabOk w) (hbg : BeginOk w) :
    Calls Tryd.prog 8 #[.string s] w fun e w' => e = .returned (.string (shaB s)) ∧ Below w.heap.size w w' := by
  have hc := new_any w hbg
  have HT := hide (And.intro htab hbg); clear htab hbg
  go_enter Tryd.func8, Tryd.ntmps8
  go_wp2_with fail
  refine hc.mono ?_
  rintro e w1 ⟨rfl, hH1, hb1⟩
  have htab1 : TabOk w1 := (unhide HT).1.below hb1 (unhide HT).1.lt
  have hw := write_any w.heap.size [] s w1 (by simp) (by omega) (.inl rfl) htab1 (unhide HT).1.lt hH1
  have H1 := hide (And.intro hb1 htab1); clear hb1 htab1 hc hH1
  go_wp2_with fail
  refine hw.mono ?_
  rintro e w2 ⟨rfl, hH2, hg2⟩
  have htab2 : TabOk w2 := (unhide H1).2.grown hg2 (Nat.ne_of_lt (unhide HT).1.lt)
  have hsm := hsum_any w.heap.size ([] ++ s.data.toList) w2 (by simpa using hs) htab2 hH2
  have H2 := hide hg2; clear hg2 hw hH2 htab2
  go_wp2_with fail
  refine hsm.mono ?_
  rintro e w3 ⟨rfl, hb3⟩
  go_wp2_with fail
  go_ret
  have hbw2 : Below w.heap.size w w2 := (unhide H1).1.grown (unhide H2) (unhide H1).1.size (fun k hk => by cases hk; exact Nat.le_refl _)
  exact ⟨rfl, hbw2.trans (hb3.mono hbw2.size)⟩
end Go.Proofs.YtmkecanibedahaaDoor

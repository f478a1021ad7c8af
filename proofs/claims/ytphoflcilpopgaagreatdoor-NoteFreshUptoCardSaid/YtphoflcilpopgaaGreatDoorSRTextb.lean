/-
  CONTRACT of the document's Text: the refusals ahead of the lines, and all ways together.
-/
import Derived.Test.YtphoflcilpopgaaGreatDoorRows
import Derived.Test.YtphoflcilpopgaaGreatDoorGBase
import Derived.Test.YtphoflcilpopgaaGreatDoorGMacs
import Derived.Test.YtphoflcilpopgaaGreatDoorGTx
import Derived.Test.YtphoflcilpopgaaGreatDoorSRText
set_option linter.unusedVariables false
set_option linter.unusedSimpArgs false
namespace Go.Proofs.YtphoflcilpopgaaGreatDoor
open Go.RowKit Go.Lib
set_option maxRecDepth 100000 in
set_option maxHeartbeats 1000000 in
theorem rnoteTx_any (o r : ByteArray) (n : Int) (v : Value) (es : List ByteArray) (w : World) (ho : o.size ≤ 1099511627776) (hrs : r.size ≤ 1099511627776) (hl : (linesL es).length ≤ 1099511627776) (hv : StrsAt w v es) :
    Calls Tryz.prog 18 #[.agg #[.string o, .int .i64 n, .string r, v]] w fun e w' => e = .returned (textV o n r es) ∧ Below w.heap.size w w' := by
  have hb1 : Below w.heap.size w (w.alloc (.cells #[.string o, .int .i64 n, .string r, v] 30)) := (Below.refl _ _).alloc (Nat.le_refl _) _
  by_cases h1 : nameOk o = false
  · have hres : Hid (textV o n r es = .tuple #[.string ⟨#[]⟩, .int .i64 203]) := by unfold textV; rw [if_pos h1]; rfl
    have H1 := hide h1; clear h1 hv
    go_enter Tryz.func18, Tryz.ntmps18
    go_wp2_with fail
    refine (rname_any _ _ (by simp only [maxLen]; omega)).mono ?_
    rintro e w1 ⟨rfl, rfl⟩
    rw [unhide H1]
    go_wp2_with fail
    go_ret2
    refine ⟨by rw [hres.out]; rfl, ?_⟩
    first | exact hb1 | exact hb1.alloc hb1.size _
  · have h1' : nameOk o = true := by simpa using h1
    by_cases h2 : n < 0 ∨ 4611686018427387904 < n
    · have hres : Hid (textV o n r es = .tuple #[.string ⟨#[]⟩, .int .i64 10]) := by unfold textV; rw [if_neg h1, if_pos h2]; rfl
      have H1 := hide h1'; clear h1 h1' hv
      have hd : (decide (n < 0) || decide (4611686018427387904 < n)) = true := by simpa using h2
      go_enter Tryz.func18, Tryz.ntmps18
      go_wp2_with fail
      refine (rname_any _ _ (by simp only [maxLen]; omega)).mono ?_
      rintro e w1 ⟨rfl, rfl⟩
      rw [unhide H1]
      rcases h2 with h2 | h2
      · go_wp2_with fail
        go_ret2
        refine ⟨by rw [hres.out]; rfl, ?_⟩
        first | exact hb1 | exact hb1.alloc hb1.size _
      · have h3 : ¬ n < 0 := by omega
        go_wp2_with fail
        go_ret2
        refine ⟨by rw [hres.out]; rfl, ?_⟩
        first | exact hb1 | exact hb1.alloc hb1.size _
    · by_cases h3 : r.size < 1 ∨ 32 < r.size
      · have hres : Hid (textV o n r es = .tuple #[.string ⟨#[]⟩, .int .i64 72]) := by unfold textV; rw [if_neg h1, if_neg h2, if_pos h3]; rfl
        have H1 := hide h1'; clear h1 h1' hv
        have h4 : 0 ≤ n := by omega
        have h5 : n ≤ 4611686018427387904 := by omega
        clear h2
        go_enter Tryz.func18, Tryz.ntmps18
        go_wp2_with fail
        refine (rname_any _ _ (by simp only [maxLen]; omega)).mono ?_
        rintro e w1 ⟨rfl, rfl⟩
        rw [unhide H1]
        rcases h3 with h3 | h3
        · have h6 : (r.size : Int) < 1 := by omega
          go_wp2_with fail
          go_ret2
          refine ⟨by rw [hres.out]; rfl, ?_⟩
          first | exact hb1 | exact hb1.alloc hb1.size _
        · have h6 : ¬ (r.size : Int) < 1 := by omega
          have h7 : 32 < (r.size : Int) := by omega
          go_wp2_with fail
          go_ret2
          refine ⟨by rw [hres.out]; rfl, ?_⟩
          first | exact hb1 | exact hb1.alloc hb1.size _
      · refine (rtext_main o r n v es w ho hl hv h1' (by omega) (by omega) (by omega) (by omega)).mono ?_
        rintro e w' ⟨rfl, hb⟩
        exact ⟨by unfold textV; rw [if_neg h1, if_neg h2, if_neg h3], hb⟩
end Go.Proofs.YtphoflcilpopgaaGreatDoor

/-
  CONTRACTS of play.named, (shape).counted.
-/
import Derived.Test.YtaomecinemmdgaaRows
import Derived.Test.YtaomecinemmdgaaGBase
import Derived.Test.YtaomecinemmdgaaGLns
import Derived.Test.YtaomecinemmdgaaSShapes
import Derived.Test.YtaomecinemmdgaaSWords
import Derived.Test.YtaomecinemmdgaaSStepP
set_option linter.unusedVariables false
set_option linter.unusedSimpArgs false
namespace Go.Proofs.Ytaomecinemmdgaa
open Go.RowKit Go.Lib
set_option maxRecDepth 100000 in
set_option maxHeartbeats 4000000 in
theorem named_any (s : ByteArray) (w : World) :
    Calls Try.prog 68 #[.string s] w fun e w' => e = .returned (.int .i64 (kindP s : Int)) ∧ Below w.heap.size w w' := by
  have hsh := shapes_any w
  have hix := fun (k : Nat) (hk : k < 35) W => shapes_index W k hk
  obtain ⟨C, hC⟩ : ∃ C, Hid (shapesC.toArray = C) := ⟨_, Lib.hid rfl⟩
  rw [hC.out] at hsh hix
  have HS := hide hsh; have HI := hide hix; clear hsh hix
  go_enter Try.func68, Try.ntmps68
  go_wp2_with fail
  refine (unhide HS).mono ?_
  rintro e0 w0 ⟨rfl, hb0⟩
  have HB := hide hb0; clear hb0 HS
  go_wp2_with fail
  go_loopw [3, 4, 6] (fun _ _ i W => ∃ k : Nat, k ≤ 35 ∧ i = .int .i64 (k : Int) ∧ Hid (kindFrom s (35 - k) k = kindP s) ∧ Below w.heap.size w W) (fun _ _ i _ => 36 - (RowKit.intOf i).toNat)
  case atStart => exact ⟨0, by omega, rfl, Lib.hid (kindFrom_0 s), unhide HB⟩
  case round =>
    obtain ⟨k, hk, rfl, hI, hb⟩ := hrel
    clear HB
    rcases Nat.lt_or_ge k 35 with hlt | hge
    · have t1 : (k : Int) < 35 := by omega
      have t0 : (0 : Int) ≤ (k : Int) := by omega
      have hix := fun W => (unhide HI) k hlt W
      have hI2 := hI.out
      rw [show 35 - k = (34 - k) + 1 by omega, kindFrom] at hI2
      generalize shapeAt k = F at *
      have HB := hide hb; clear hb hI
      have hz : Hid (w.heap.size ≤ wr.heap.size) := Lib.hid (unhide HB).size
      by_cases hk0 : 0 < k
      · have q1 : (0 : Int) < (k : Int) := by omega
        by_cases hw : F.wd = s
        · rw [if_pos ⟨by omega, hw⟩] at hI2
          have hr := Lib.hid hI2
          have y1 : (F.wd.toList == s.toList) = true := by rw [hw]; exact beq_self_eq_true _
          have y2 : F.wd.toList = s.toList := by rw [hw]
          clear hI2 hw
          go_wp2_with fail
          go_ret
          exact ⟨by rw [← hr.out]; rfl, (unhide HB).alloc hz.out _⟩
        · rw [if_neg (fun h => hw h.2)] at hI2
          have hr := Lib.hid hI2
          have y1 : (F.wd.toList == s.toList) = false := toList_ne hw
          have y2 : ¬ F.wd.toList = s.toList := by rw [beq_eq_false_iff_ne] at y1; exact y1
          clear hI2 hw
          go_wp2_with fail
          exact ⟨⟨k + 1, by omega, by go_num, Lib.hid (by rw [← hr.out, show 34 - k = 35 - (k + 1) by omega]), (unhide HB).alloc hz.out _⟩, by simp [RowKit.intOf]; omega⟩
      · have q1 : ¬ (0 : Int) < (k : Int) := by omega
        rw [if_neg (fun h => hk0 h.1)] at hI2
        have hr := Lib.hid hI2
        clear hI2
        go_wp2_with fail
        exact ⟨⟨k + 1, by omega, by go_num, Lib.hid (by rw [← hr.out, show 34 - k = 35 - (k + 1) by omega]), (unhide HB).alloc hz.out _⟩, by simp [RowKit.intOf]; omega⟩
    · have t1 : ¬ (k : Int) < 35 := by omega
      have hr := hI.out
      rw [show 35 - k = 0 by omega, kindFrom] at hr
      have HR := Lib.hid hr; have HB := hide hb; clear hr hb hI
      go_wp2_with fail
      go_ret
      exact ⟨by rw [← HR.out]; rfl, unhide HB⟩
end Go.Proofs.Ytaomecinemmdgaa

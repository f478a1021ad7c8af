/-
  CONTRACTS of front.numbered, annalsref27.joined.
-/
import Derived.Test.YtnkioabdpploeaaGreatDoorRows
import Derived.Test.YtnkioabdpploeaaGreatDoorGBase
import Derived.Test.YtnkioabdpploeaaGreatDoorGLns
import Derived.Test.YtnkioabdpploeaaGreatDoorGDecs
import Derived.Test.YtnkioabdpploeaaGreatDoorSREsc
import Derived.Test.YtnkioabdpploeaaGreatDoorSRStepA
import Derived.Test.YtnkioabdpploeaaGreatDoorSFew
import Derived.Test.YtnkioabdpploeaaGreatDoorSTellP
set_option linter.unusedVariables false
set_option linter.unusedSimpArgs false
namespace Go.Proofs.YtnkioabdpploeaaGreatDoor
open Go.RowKit Go.Lib
/-- What numbered answers. -/
def FNumR (w' : World) (base : Nat) (l : List ByteArray) (e : Ending) : Prop :=
  (∃ ns v, numsO l = some ns ∧ e = .returned (.tuple #[v, .bool true]) ∧ OwnI w' base v ns) ∨ (numsO l = none ∧ e = .returned (.tuple #[.slice none 0 0, .bool false]))
set_option maxRecDepth 100000 in
set_option maxHeartbeats 4000000 in
theorem fnums_any (v : Value) (ps : List ByteArray) (w : World) (hS : StrsAt w v ps) (hz : ∀ x ∈ ps, x.size ≤ 1099511627776) (hn : ps.length ≤ 1099511627777) :
    Calls Tryz.prog 24 #[v] w fun e w' => FNumR w' w.heap.size ps e ∧ Below w.heap.size w w' := by
  obtain ⟨A, c, rfl, -⟩ := id hS
  have HS := hide (And.intro hS hz); clear hS hz
  go_enter Tryz.func24, Tryz.ntmps24
  go_wp2_with fail
  go_loopw [4, 6, 7, 8, 11] (fun o _ _ _ i W => ∃ (j : Nat) (acc : List Int), j ≤ ps.length ∧ i = .int .i64 (j : Int) ∧ Hid ((numsO (ps.drop j)).map (acc ++ ·) = numsO ps) ∧ Hid (acc.length = j) ∧ OwnI W w.heap.size o acc ∧ Below w.heap.size w W) (fun _ _ _ _ i _ => ps.length - (RowKit.intOf i).toNat)
  case atStart => exact ⟨0, [], by omega, rfl, Lib.hid (by simp), Lib.hid rfl, World.ownsRow_nil _ _ _ _, Below.refl _ _⟩
  case round =>
    obtain ⟨j, acc, hj, rfl, hI, hal, hO, hb⟩ := hrel
    rcases Nat.lt_or_ge j ps.length with hlt | hge
    · have t0 : (0 : Int) ≤ (j : Int) := by omega
      have t1 : (j : Int) < (ps.length : Int) := by omega
      have qb : j ≤ 1099511627777 := by omega
      obtain ⟨a, rfl, hca⟩ := strs_at ((unhide HS).1.below hb) j hlt
      have hun := undec_any ps[j] wr ((unhide HS).2 _ (List.getElem_mem hlt))
      have hI2 := hI.out
      rw [List.drop_eq_getElem_cons hlt, numsO] at hI2
      generalize ps[j] = x at *
      have HX := hide (And.intro hO hb); clear hO hb hI
      cases hE : undV x with
      | none =>
        rw [undA_none hE] at hun
        rw [hE] at hI2
        have hr : Hid (numsO ps = none) := Lib.hid (by rw [← hI2]; rfl)
        have HU := hide hun; clear hun hI2 hE
        go_wp2_with fail
        refine (unhide HU).mono ?_
        rintro e2 w2 ⟨rfl, hb2⟩
        have H3 := hide ((unhide HX).2.trans (hb2.mono (unhide HX).2.size)); clear hb2 HU HX
        go_wp2_with fail
        go_ret2
        exact ⟨.inr ⟨hr.out, rfl⟩, unhide H3⟩
      | some t =>
        rw [undA_some hE] at hun
        rw [hE] at hI2
        have hI3 : Hid ((numsO (ps.drop (j + 1))).map ((acc ++ [t]) ++ ·) = numsO ps) := Lib.hid (by
          rw [← hI2]; simp only [Option.map_map]; congr 1; funext y; simp)
        have HU := hide hun; clear hun hI2 hE
        go_wp2_with fail
        refine (unhide HU).mono ?_
        rintro e2 w2 ⟨rfl, hb2⟩
        have hO2 := (row_low (unhide HX).1 (fun k hk => (World.ownsRow.lt (unhide HX).1 k hk).2) hb2 : OwnI w2 w.heap.size _ acc)
        have hbb := (unhide HX).2.trans (hb2.mono (unhide HX).2.size)
        have H3 := hide (And.intro hO2 hbb); clear hb2 HU HX hO2 hbb
        go_wp2_with (first | (at_builtin; refine wpList_appI1 w2 rfl _ _ rfl (unhide H3).1 rfl rfl (by have := hal.out; omega) (unhide H3).2.size ?_; intro v1 w3 hO1 hg1 hat1; have H4 := hide (And.intro hO1 (appI_below (unhide H3).2 (unhide H3).1 (unhide H3).2.size hg1)); clear hO1 hg1 hat1))
        refine ⟨⟨j + 1, acc ++ [t], by omega, by go_num, hI3, Lib.hid (by have := hal.out; simp; omega), (unhide H4).1, (unhide H4).2⟩, by simp [RowKit.intOf]; omega⟩
    · have t1 : ¬ (j : Int) < (ps.length : Int) := by omega
      have hr : Hid (numsO ps = some acc) := Lib.hid (by rw [← hI.out, List.drop_eq_nil_of_le hge]; simp [numsO])
      have HX := hide (And.intro hO hb)
      obtain ⟨Ao, co, rfl, -⟩ := id hO.ints
      clear hO hb hI
      go_wp2_with fail
      go_ret2
      exact ⟨.inl ⟨acc, _, hr.out, rfl, (unhide HX).1⟩, (unhide HX).2⟩
end Go.Proofs.YtnkioabdpploeaaGreatDoor

/-
  CONTRACTS of the law's helpers: texts, num.
-/
import Derived.Test.YtfhaoamlagnpjaaDoorRows
import Derived.Test.YtfhaoamlagnpjaaDoorWd
import Derived.Test.YtfhaoamlagnpjaaDoorStrRow
import Derived.Deep.QuietTactic
import Derived.BigQuiet
set_option linter.unusedVariables false
set_option linter.unusedSimpArgs false
namespace Go.Proofs.YtfhaoamlagnpjaaDoor
open Go.RowKit Go.Lib
theorem numl_any (z : Nat) (w : World) (hz : z < 1000) : Calls Tryd.prog 13 #[.int .i64 (z : Int)] w fun e w' => e = .returned (.int .i64 (z : Int)) ∧ w = w' := by
  go_enter Tryd.func13, Tryd.ntmps13
  go_wp2
  go_ret
  exact ⟨rfl, rfl⟩
set_option maxRecDepth 100000 in
set_option maxHeartbeats 1000000 in
/-- Two lists that read alike are alike. -/
theorem texts_eq (a b : Value) (es : List ByteArray) (w : World) (hn : es.length ≤ 1099511627776) (ha : StrsAt w a es) (hb : StrsAt w b es) :
    Calls Tryd.prog 18 #[a, b] w fun e w' => e = .returned (.bool true) ∧ ∃ nd, w' = w.drewN nd := by
  obtain ⟨A, c, rfl, ha⟩ := ha
  obtain ⟨B, d, rfl, hb⟩ := hb
  have HA := hide ha; have HB := hide hb; clear ha hb
  go_enter Tryd.func18, Tryd.ntmps18
  go_wp2_with fail
  go_loopw [5] (fun i wr => ∃ k : Nat, i = .int .i64 k ∧ k ≤ es.length ∧ ∃ nd, Hid (wr = w.drewN nd)) (fun i _ => es.length - (RowKit.intOf i).toNat)
  case atStart => exact ⟨0, rfl, by omega, 0, Lib.hid rfl⟩
  case round =>
    obtain ⟨k, rfl, hk, nd, hw⟩ := hrel
    have hw' := hw.out
    subst hw'
    rcases Nat.lt_or_ge k es.length with hlt | hge
    · obtain ⟨p, rfl, hp⟩ := unhide HA k hlt
      obtain ⟨q, rfl, hq⟩ := unhide HB k hlt
      generalize es[k] = x at hp hq
      have hp' : (w.drewN nd).cell? (p.add k) = some (.string x) := hp
      have hq' : (w.drewN nd).cell? (q.add k) = some (.string x) := hq
      go_wp2_with fail
      go_quiet (fail)
      go_wp2_with fail
      refine ⟨⟨k + 1, by go_num, by omega, nd + nq, Lib.hid rfl⟩, by simp [RowKit.intOf]; omega⟩
    · go_wp2_with fail
      go_ret
      exact ⟨rfl, nd, rfl⟩
end Go.Proofs.YtfhaoamlagnpjaaDoor

/-
  CONTRACTS of the law's sameInts, sameTexts, sameReply on equal lists; of ints, words (copies with a mark behind them).
-/
import Derived.Test.YtnkioabdpploeaaGreatDoorRows
import Derived.BigQuiet
import Derived.Deep.QuietTactic
import Derived.Test.YtnkioabdpploeaaGreatDoorGBase
import Derived.Test.YtnkioabdpploeaaGreatDoorGLns
import Derived.Test.YtnkioabdpploeaaGreatDoorSRScript
import Derived.Test.YtnkioabdpploeaaGreatDoorSTWords
import Derived.Test.YtnkioabdpploeaaGreatDoorSFew
import Derived.Test.YtnkioabdpploeaaGreatDoorGTld
import Derived.Test.YtnkioabdpploeaaGreatDoorGApt
set_option linter.unusedVariables false
set_option linter.unusedSimpArgs false
namespace Go.Proofs.YtnkioabdpploeaaGreatDoor
open Go.RowKit Go.Lib
set_option maxRecDepth 100000 in
set_option maxHeartbeats 2000000 in
theorem sameInts27_eq (v1 v2 : Value) (l : List Int) (w : World) (hn : l.length ≤ 562949953421312) (h1 : IntsAt w v1 l) (h2 : IntsAt w v2 l) :
    Calls Tryz.prog 27 #[v1, v2] w fun e w' => e = .returned (.bool true) ∧ ∃ n, w' = w.drewN n := by
  obtain ⟨A, c, rfl, -⟩ := id h1
  obtain ⟨B, d, rfl, -⟩ := id h2
  have H := hide (And.intro h1 h2); clear h1 h2
  go_enter Tryz.func27, Tryz.ntmps27
  go_wp2_with fail
  go_loopw [5] (fun i wr => ∃ k : Nat, i = .int .i64 (k : Int) ∧ k ≤ l.length ∧ ∃ nd, Hid (wr = w.drewN nd)) (fun i _ => l.length - (RowKit.intOf i).toNat)
  case atStart => exact ⟨0, rfl, by omega, 0, Lib.hid rfl⟩
  case round =>
    obtain ⟨k, rfl, hk, nd, hw⟩ := hrel
    have hw' := hw.out
    subst hw'
    rcases Nat.lt_or_ge k l.length with hlt | hge
    · have t0 : (0 : Int) ≤ (k : Int) := by omega
      have qb : k ≤ 562949953421312 := by omega
      have t1 : (k : Int) < (l.length : Int) := by omega
      obtain ⟨a, rfl, ca⟩ := ints_at (unhide H).1 k hlt
      obtain ⟨b, rfl, cb⟩ := ints_at (unhide H).2 k hlt
      have da : (w.drewN nd).cell? (a.add k) = some (.int .i64 l[k]) := ca
      have db : (w.drewN nd).cell? (b.add k) = some (.int .i64 l[k]) := cb
      generalize l[k] = x at *
      go_wp2_with fail
      go_quiet (fail)
      go_wp2_with fail
      refine ⟨⟨k + 1, by go_num, by omega, nd + nq, Lib.hid rfl⟩, by simp [RowKit.intOf]; omega⟩
    · have t1 : ¬ (k : Int) < (l.length : Int) := by omega
      go_wp2_with fail
      go_ret
      exact ⟨rfl, nd, rfl⟩
set_option maxRecDepth 100000 in
set_option maxHeartbeats 2000000 in
theorem sameTexts27_eq (v1 v2 : Value) (l : List ByteArray) (w : World) (hn : l.length ≤ 562949953421312) (h1 : StrsAt w v1 l) (h2 : StrsAt w v2 l) :
    Calls Tryz.prog 28 #[v1, v2] w fun e w' => e = .returned (.bool true) ∧ ∃ n, w' = w.drewN n := by
  obtain ⟨A, c, rfl, -⟩ := id h1
  obtain ⟨B, d, rfl, -⟩ := id h2
  have H := hide (And.intro h1 h2); clear h1 h2
  go_enter Tryz.func28, Tryz.ntmps28
  go_wp2_with fail
  go_loopw [5] (fun i wr => ∃ k : Nat, i = .int .i64 (k : Int) ∧ k ≤ l.length ∧ ∃ nd, Hid (wr = w.drewN nd)) (fun i _ => l.length - (RowKit.intOf i).toNat)
  case atStart => exact ⟨0, rfl, by omega, 0, Lib.hid rfl⟩
  case round =>
    obtain ⟨k, rfl, hk, nd, hw⟩ := hrel
    have hw' := hw.out
    subst hw'
    rcases Nat.lt_or_ge k l.length with hlt | hge
    · have t0 : (0 : Int) ≤ (k : Int) := by omega
      have qb : k ≤ 562949953421312 := by omega
      have t1 : (k : Int) < (l.length : Int) := by omega
      obtain ⟨a, rfl, ca⟩ := strs_at (unhide H).1 k hlt
      obtain ⟨b, rfl, cb⟩ := strs_at (unhide H).2 k hlt
      have da : (w.drewN nd).cell? (a.add k) = some (.string l[k]) := ca
      have db : (w.drewN nd).cell? (b.add k) = some (.string l[k]) := cb
      generalize l[k] = x at *
      have hss : (x.toList == x.toList) = true := beq_self_eq_true _
      go_wp2_with fail
      go_quiet (fail)
      go_wp2_with fail
      refine ⟨⟨k + 1, by go_num, by omega, nd + nq, Lib.hid rfl⟩, by simp [RowKit.intOf]; omega⟩
    · have t1 : ¬ (k : Int) < (l.length : Int) := by omega
      go_wp2_with fail
      go_ret
      exact ⟨rfl, nd, rfl⟩
theorem IntsAt.low {w w' : World} {v : Value} {l : List Int} (h : IntsAt w v l) (hb : Below w.heap.size w w') : IntsAt w' v l := h.below hb
theorem appI_marks (l : List Int) (z : Int) : (l ++ [z]).length = l.length + 1 := by simp
/-- A copy with a mark behind it. -/
def MkI (W : World) (g cap : Nat) (l : List Int) : Prop := W.ownsRow g 3 1 (.slice (some ⟨g, 0, none⟩) (l.length + 1) cap) (l.length + 1) ((l ++ [-7]).map (Value.int .i64))
def markS : ByteArray := ⟨#[109, 97, 114, 107]⟩
def MkT (W : World) (g cap : Nat) (l : List ByteArray) : Prop := W.ownsRow g 9 1 (.slice (some ⟨g, 0, none⟩) (l.length + 1) cap) (l.length + 1) ((l ++ [markS]).map Value.string)
theorem MkI.cap {W : World} {g cap : Nat} {l : List Int} (h : MkI W g cap l) : l.length + 1 ≤ cap := by
  rcases h.2 with ⟨hv, -⟩ | ⟨g1, c1, cur, hv, -, -, hc, -⟩
  · cases hv
  · injection hv with _ h2 h3; omega
theorem MkT.cap {W : World} {g cap : Nat} {l : List ByteArray} (h : MkT W g cap l) : l.length + 1 ≤ cap := by
  rcases h.2 with ⟨hv, -⟩ | ⟨g1, c1, cur, hv, -, -, hc, -⟩
  · cases hv
  · injection hv with _ h2 h3; omega
theorem MkI.ints {W : World} {g cap : Nat} {l : List Int} (h : MkI W g cap l) (c : Nat) : IntsAt W (.slice (some ⟨g, 0, none⟩) l.length c) l := by
  refine ⟨_, c, rfl, fun j hj => ⟨_, rfl, ?_⟩⟩
  have hadd : (⟨g, 0, none⟩ : Addr).add j = ⟨g, j, none⟩ := by unfold Addr.add; split <;> simp_all
  rw [hadd, World.ownsRow.cellAt h j (by omega)]
  rw [List.getElem?_map, List.getElem?_append_left hj, List.getElem?_eq_getElem hj]; rfl
theorem MkT.strs {W : World} {g cap : Nat} {l : List ByteArray} (h : MkT W g cap l) (c : Nat) : StrsAt W (.slice (some ⟨g, 0, none⟩) l.length c) l := by
  refine ⟨_, c, rfl, fun j hj => ⟨_, rfl, ?_⟩⟩
  have hadd : (⟨g, 0, none⟩ : Addr).add j = ⟨g, j, none⟩ := by unfold Addr.add; split <;> simp_all
  rw [hadd, World.ownsRow.cellAt h j (by omega)]
  rw [List.getElem?_map, List.getElem?_append_left hj, List.getElem?_eq_getElem hj]; rfl
theorem MkI.mark {W : World} {g cap : Nat} {l : List Int} (h : MkI W g cap l) : W.cell? ⟨g, l.length, none⟩ = some (.int .i64 (-7)) := by
  rw [World.ownsRow.cellAt h l.length (by omega)]; simp
theorem MkT.mark {W : World} {g cap : Nat} {l : List ByteArray} (h : MkT W g cap l) : W.cell? ⟨g, l.length, none⟩ = some (.string markS) := by
  rw [World.ownsRow.cellAt h l.length (by omega)]; simp
theorem own_slice_ne {W : World} {base : Nat} {v : Value} {l : List Int} (h : OwnI W base v l) (hl : l ≠ []) : ∃ g cap, v = .slice (some ⟨g, 0, none⟩) l.length cap ∧ base ≤ g ∧ OwnI W g v l ∧ l.length ≤ cap := by
  rcases h.2 with ⟨-, hn⟩ | ⟨g, cap, cur, rfl, hb, rest⟩
  · exact absurd (List.eq_nil_of_length_eq_zero hn) hl
  · exact ⟨g, cap, rfl, hb, ⟨h.1, .inr ⟨g, cap, cur, rfl, Nat.le_refl _, rest⟩⟩, rest.2.1⟩
theorem own_sliceT_ne {W : World} {base : Nat} {v : Value} {l : List ByteArray} (h : OwnT W base v l) (hl : l ≠ []) : ∃ g cap, v = .slice (some ⟨g, 0, none⟩) l.length cap ∧ base ≤ g ∧ OwnT W g v l ∧ l.length ≤ cap := by
  rcases h.2 with ⟨-, hn⟩ | ⟨g, cap, cur, rfl, hb, rest⟩
  · exact absurd (List.eq_nil_of_length_eq_zero hn) hl
  · exact ⟨g, cap, rfl, hb, ⟨h.1, .inr ⟨g, cap, cur, rfl, Nat.le_refl _, rest⟩⟩, rest.2.1⟩
end Go.Proofs.YtnkioabdpploeaaGreatDoor

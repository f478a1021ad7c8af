/-
  WORDS for front.Told, annalsref27.Told.
-/
import Derived.Test.YtnkioabdpploeaaGreatDoorRows
import Derived.Test.YtnkioabdpploeaaGreatDoorGBase
import Derived.Test.YtnkioabdpploeaaGreatDoorSRTell
import Derived.Test.YtnkioabdpploeaaGreatDoorSFNums
import Derived.Test.YtnkioabdpploeaaGreatDoorGTld
import Derived.Test.YtnkioabdpploeaaGreatDoorSFew
import Derived.Test.YtnkioabdpploeaaGreatDoorGApt
set_option linter.unusedVariables false
set_option linter.unusedSimpArgs false
namespace Go.Proofs.YtnkioabdpploeaaGreatDoor
open Go.RowKit Go.Lib
abbrev repC (c : Int) (vn vs : Value) : Array Value := #[.int .i64 c, vn, vs]
theorem blk3_put {w : World} {q : Nat} {t : TypeId} {a b c : Value} (hB : Blk w q t #[a, b, c]) (a' b' c' : Value) : Blk (((w.setCell ⟨q, 0, none⟩ a').setCell ⟨q, 1, none⟩ b').setCell ⟨q, 2, none⟩ c') q t #[a', b', c'] := by
  have h2 := ((hB.set_ 0 a').set_ 1 b').set_ 2 c'
  simpa using h2
theorem below3_put {B : Nat} {u w : World} {q : Nat} (hB : Below B u w) (hq : B ≤ q) (a' b' c' : Value) : Below B u (((w.setCell ⟨q, 0, none⟩ a').setCell ⟨q, 1, none⟩ b').setCell ⟨q, 2, none⟩ c') := ((hB.setCell (p := ⟨q, 0, none⟩) hq a').setCell (p := ⟨q, 1, none⟩) hq b').setCell (p := ⟨q, 2, none⟩) hq c'
theorem strs_sub {w : World} {g m cap : Nat} {ws : List ByteArray} (h : StrsAt w (.slice (some ⟨g, 0, none⟩) m cap) ws) (a n c : Nat) (hn : a + n ≤ ws.length) : StrsAt w (.slice (some ⟨g, a, none⟩) n c) ((ws.drop a).take n) := by
  have hl : ((ws.drop a).take n).length = n := by rw [List.length_take, List.length_drop]; omega
  refine ⟨some ⟨g, a, none⟩, c, by rw [hl], fun j hj => ⟨_, rfl, ?_⟩⟩
  rw [hl] at hj
  obtain ⟨q, hq, hc⟩ := strs_at h (a + j) (by omega)
  injection hq with hq
  subst hq
  have e1 : (⟨g, 0, none⟩ : Addr).add (a + j) = ⟨g, a + j, none⟩ := by unfold Addr.add; split <;> simp_all
  have e2 : (⟨g, a, none⟩ : Addr).add j = ⟨g, a + j, none⟩ := by unfold Addr.add; split <;> simp_all
  rw [e1] at hc
  rw [e2, hc]
  simp
theorem strs_nil {w : World} {A : Option Addr} {c : Nat} : StrsAt w (.slice A 0 c) [] := ⟨A, c, rfl, fun j hj => absurd hj (by simp)⟩
theorem rd_end {w W : World} {base : Nat} {vn vs : Value} {N : List Int} {S : List ByteArray} (hn : OwnI W base vn N) (ht : OwnT W base vs S) (hb : w.heap.size < base) (a b c' : Value) : OwnI (((W.setCell ⟨w.heap.size, 0, none⟩ a).setCell ⟨w.heap.size, 1, none⟩ b).setCell ⟨w.heap.size, 2, none⟩ c') w.heap.size vn N ∧ OwnT (((W.setCell ⟨w.heap.size, 0, none⟩ a).setCell ⟨w.heap.size, 1, none⟩ b).setCell ⟨w.heap.size, 2, none⟩ c') w.heap.size vs S :=
  ⟨row_mono (row_far (row_far (row_far hn (p := ⟨w.heap.size, 0, none⟩) hb) (p := ⟨w.heap.size, 1, none⟩) hb) (p := ⟨w.heap.size, 2, none⟩) hb) (Nat.le_of_lt hb),
   row_mono (row_far (row_far (row_far ht (p := ⟨w.heap.size, 0, none⟩) hb) (p := ⟨w.heap.size, 1, none⟩) hb) (p := ⟨w.heap.size, 2, none⟩) hb) (Nat.le_of_lt hb)⟩
end Go.Proofs.YtnkioabdpploeaaGreatDoor

/-
  WORDS for front.Told, annalsref27.Told.
-/
import Derived.Test.YtnkioabdpploeaaGreatDoorRows
import Derived.Test.YtnkioabdpploeaaGreatDoorGBase
import Derived.Test.YtnkioabdpploeaaGreatDoorSFTell
import Derived.Test.YtnkioabdpploeaaGreatDoorSFNums
import Derived.Test.YtnkioabdpploeaaGreatDoorGTld
import Derived.Test.YtnkioabdpploeaaGreatDoorSRStep
import Derived.Test.YtnkioabdpploeaaGreatDoorGApt
set_option linter.unusedVariables false
set_option linter.unusedSimpArgs false
namespace Go.Proofs.YtnkioabdpploeaaGreatDoor
open Go.RowKit Go.Lib
abbrev repC (c : Int) (vn vs : Value) : Array Value := #[.int .i64 c, vn, vs]
theorem results_reply {fn : Func} {p u : Tmp} (h : fn.results = #[.cell p 44, .tmp u]) (tmps : Array Value) (w : World) (g : Nat) (a b c : Value) (hp : tmps.getD p undef = .pointer (some ⟨g, 0, none⟩)) (hB : Blk w g 44 #[a, b, c]) :
    (results fn tmps).run Tryz.prog w = .ok (.tuple #[.agg #[a, b, c], tmps.getD u undef]) w := by
  rw [results_cell_tmp h, hp]
  have hl := run_loadVar_row (P := Tryz.prog) w g 44 44 #[a, b, c] (0, 0) _ hB Tryz.underlying44 rfl (by kernel_rfl)
  simp [asAddr, hl, Result.andThen]
theorem blk3_put {w : World} {q : Nat} {t : TypeId} {a b c : Value} (hB : Blk w q t #[a, b, c]) (a' b' c' : Value) : Blk (((w.setCell ⟨q, 0, none⟩ a').setCell ⟨q, 1, none⟩ b').setCell ⟨q, 2, none⟩ c') q t #[a', b', c'] := by
  have h2 := ((hB.set_ 0 a').set_ 1 b').set_ 2 c'
  simpa using h2
theorem below3_put {B : Nat} {u w : World} {q : Nat} (hB : Below B u w) (hq : B ≤ q) (a' b' c' : Value) : Below B u (((w.setCell ⟨q, 0, none⟩ a').setCell ⟨q, 1, none⟩ b').setCell ⟨q, 2, none⟩ c') := ((hB.setCell (p := ⟨q, 0, none⟩) hq a').setCell (p := ⟨q, 1, none⟩) hq b').setCell (p := ⟨q, 2, none⟩) hq c'
theorem strs_sub {w : World} {g m cap : Nat} {ws : List ByteArray} (h : StrsAt w (.slice (some ⟨g, 0, none⟩) m cap) ws) (a n c : Nat) (hn : a + n ≤ ws.length) : StrsAt w (.slice (some ⟨g, a, none⟩) n c) ((ws.drop a).take n) := by
  have hl : ((ws.drop a).take n).length = n := by rw [List.length_take, List.length_drop]; omega
  refine ⟨some ⟨g, a, none⟩, c, by rw [hl], fun j hj => ⟨_, rfl, ?_⟩⟩
  rw [hl] at hj
  obtain ⟨q, hq, hc⟩ := strs_at h (a + j) (by omega)
  injection hq with hq
  subst hq
  have e1 : (⟨g, 0, none⟩ : Addr).add (a + j) = ⟨g, a + j, none⟩ := by unfold Addr.add; split <;> simp_all
  have e2 : (⟨g, a, none⟩ : Addr).add j = ⟨g, a + j, none⟩ := by unfold Addr.add; split <;> simp_all
  rw [e1] at hc
  rw [e2, hc]
  simp
theorem strs_nil {w : World} {A : Option Addr} {c : Nat} : StrsAt w (.slice A 0 c) [] := ⟨A, c, rfl, fun j hj => absurd hj (by simp)⟩
theorem ownI2 {w : World} {base : Nat} {v : Value} {a b : Int} (h : OwnI w base v [a, b]) : ∃ g cp, v = .slice (some ⟨g, 0, none⟩) 2 cp ∧ w.cell? ⟨g, 0, none⟩ = some (.int .i64 a) ∧ w.cell? ⟨g, 1, none⟩ = some (.int .i64 b) := by
  rcases id h.2 with ⟨-, hn⟩ | ⟨g, cap, cur, rfl, -, -, -⟩
  · simp at hn
  · exact ⟨g, cap, rfl, World.ownsRow.cellAt h 0 (by simp), World.ownsRow.cellAt h 1 (by simp)⟩
/-- Behind the reply that was built. -/
structure T9 (w w3 wx : World) (g9 : Nat) (c : Int) (vN vS : Value) (S : List ByteArray) : Prop where
  x : TX w wx (repC 0 (.slice none 0 0) (.slice none 0 0))
  b : Below w3.heap.size w3 wx
  r : Blk wx g9 44 #[.int .i64 c, vN, vS]
  t : OwnT wx w3.heap.size vS S
theorem t9_A {w w3 w4 : World} {c : Int} {vN vS : Value} {S : List ByteArray} (h : TX w w3 (repC 0 (.slice none 0 0) (.slice none 0 0))) (hO : OwnT w4 w3.heap.size vS S) (hg : w3.drew.grownBy w4 none) :
    T9 w w3 (w4.alloc (.cells #[.int .i64 c, vN, vS] 44)) w4.heap.size c vN vS S := by
  have hb : Below w3.heap.size w3 w4 := ((Below.refl _ w3).drew).grown hg (Nat.le_refl _) (fun k hk => by cases hk)
  have hb2 := hb.alloc hb.size (.cells #[.int .i64 c, vN, vS] 44)
  exact ⟨h.next hb2, hb2, Blk.new _ _ _, hO.alloc _⟩
theorem t9_B {w w3 w4 : World} {c : Int} {vN vS : Value} {S : List ByteArray} {cs : Array Value} {o : Obj} (h : TX w w3 (repC 0 (.slice none 0 0) (.slice none 0 0))) (hO : OwnT w4 w3.heap.size vS S) (hg : (w3.alloc o).drew.grownBy w4 none) (hZ : Blk w4 w3.heap.size 44 #[.int .i64 0, .slice none 0 0, .slice none 0 0]) :
    T9 w w3 (((w4.setCell ⟨w3.heap.size, 0, none⟩ (.int .i64 c)).setCell ⟨w3.heap.size, 1, none⟩ vN).setCell ⟨w3.heap.size, 2, none⟩ vS) w3.heap.size c vN vS S := by
  have hb : Below w3.heap.size w3 w4 := (((Below.refl _ w3).alloc (Nat.le_refl _) o).drew).grown hg (by show w3.heap.size ≤ (w3.alloc o).heap.size; simp) (fun k hk => by cases hk)
  have hb2 := below3_put hb (Nat.le_refl _) (.int .i64 c) vN vS
  have hne : vS.ownBlock ≠ some w3.heap.size := own_blk_ne hO hZ (by decide)
  refine ⟨h.next hb2, hb2, blk3_put hZ _ _ _, ?_⟩
  exact row_store_ne (row_store_ne (row_store_ne hO hne _) hne _) hne _
theorem rd_end {w W : World} {base : Nat} {vn vs : Value} {N : List Int} {S : List ByteArray} (hn : OwnI W base vn N) (ht : OwnT W base vs S) (hb : w.heap.size < base) (a b c' : Value) : OwnI (((W.setCell ⟨w.heap.size, 0, none⟩ a).setCell ⟨w.heap.size, 1, none⟩ b).setCell ⟨w.heap.size, 2, none⟩ c') w.heap.size vn N ∧ OwnT (((W.setCell ⟨w.heap.size, 0, none⟩ a).setCell ⟨w.heap.size, 1, none⟩ b).setCell ⟨w.heap.size, 2, none⟩ c') w.heap.size vs S :=
  ⟨row_mono (row_far (row_far (row_far hn (p := ⟨w.heap.size, 0, none⟩) hb) (p := ⟨w.heap.size, 1, none⟩) hb) (p := ⟨w.heap.size, 2, none⟩) hb) (Nat.le_of_lt hb),
   row_mono (row_far (row_far (row_far ht (p := ⟨w.heap.size, 0, none⟩) hb) (p := ⟨w.heap.size, 1, none⟩) hb) (p := ⟨w.heap.size, 2, none⟩) hb) (Nat.le_of_lt hb)⟩
end Go.Proofs.YtnkioabdpploeaaGreatDoor

/-
  WORDS for front.Asked, annalsref27.Asked.
-/
import Derived.Test.YtnkioabdpploeaaGreatDoorRows
import Derived.Test.YtnkioabdpploeaaGreatDoorGBase
import Derived.Test.YtnkioabdpploeaaGreatDoorSFToldA
import Derived.Test.YtnkioabdpploeaaGreatDoorSCallP
set_option linter.unusedVariables false
set_option linter.unusedSimpArgs false
namespace Go.Proofs.YtnkioabdpploeaaGreatDoor
open Go.RowKit Go.Lib
structure TXc (w W : World) (cs : Array Value) : Prop where
  b : Below w.heap.size w W
  x : Blk W w.heap.size 25 cs
theorem TXc.next {w W W' : World} {cs : Array Value} (h : TXc w W cs) (hb : Below W.heap.size W W') : TXc w W' cs := ⟨h.b.trans (hb.mono h.b.size), h.x.below hb h.x.lt⟩
theorem TXc.drew {w W : World} {cs : Array Value} (h : TXc w W cs) : TXc w W.drew cs := ⟨h.b.drew, h.x.drew⟩
abbrev calC (c : ByteArray) (vn vs : Value) : Array Value := #[.string c, vn, vs]
theorem results_call {fn : Func} {p u : Tmp} (h : fn.results = #[.cell p 25, .tmp u]) (tmps : Array Value) (w : World) (g : Nat) (a b c : Value) (hp : tmps.getD p undef = .pointer (some ⟨g, 0, none⟩)) (hB : Blk w g 25 #[a, b, c]) :
    (results fn tmps).run Tryz.prog w = .ok (.tuple #[.agg #[a, b, c], tmps.getD u undef]) w := by
  rw [results_cell_tmp h, hp]
  have hl := run_loadVar_row (P := Tryz.prog) w g 25 25 #[a, b, c] (0, 0) _ hB Tryz.underlying25 rfl (by kernel_rfl)
  simp [asAddr, hl, Result.andThen]
/-- Behind the reply that was built. -/
structure T9c (w w3 wx : World) (g9 : Nat) (c : ByteArray) (vN vS : Value) (S : List ByteArray) : Prop where
  x : TXc w wx (calC ⟨#[]⟩ (.slice none 0 0) (.slice none 0 0))
  b : Below w3.heap.size w3 wx
  r : Blk wx g9 25 #[.string c, vN, vS]
  t : OwnT wx w3.heap.size vS S
theorem t9c_A {w w3 w4 : World} {c : ByteArray} {vN vS : Value} {S : List ByteArray} (h : TXc w w3 (calC ⟨#[]⟩ (.slice none 0 0) (.slice none 0 0))) (hO : OwnT w4 w3.heap.size vS S) (hg : w3.drew.grownBy w4 none) :
    T9c w w3 (w4.alloc (.cells #[.string c, vN, vS] 25)) w4.heap.size c vN vS S := by
  have hb : Below w3.heap.size w3 w4 := ((Below.refl _ w3).drew).grown hg (Nat.le_refl _) (fun k hk => by cases hk)
  have hb2 := hb.alloc hb.size (.cells #[.string c, vN, vS] 25)
  exact ⟨h.next hb2, hb2, Blk.new _ _ _, hO.alloc _⟩
theorem t9c_B {w w3 w4 : World} {c : ByteArray} {vN vS : Value} {S : List ByteArray} {cs : Array Value} {o : Obj} (h : TXc w w3 (calC ⟨#[]⟩ (.slice none 0 0) (.slice none 0 0))) (hO : OwnT w4 w3.heap.size vS S) (hg : (w3.alloc o).drew.grownBy w4 none) (hZ : Blk w4 w3.heap.size 25 #[.string ⟨#[]⟩, .slice none 0 0, .slice none 0 0]) :
    T9c w w3 (((w4.setCell ⟨w3.heap.size, 0, none⟩ (.string c)).setCell ⟨w3.heap.size, 1, none⟩ vN).setCell ⟨w3.heap.size, 2, none⟩ vS) w3.heap.size c vN vS S := by
  have hb : Below w3.heap.size w3 w4 := (((Below.refl _ w3).alloc (Nat.le_refl _) o).drew).grown hg (by show w3.heap.size ≤ (w3.alloc o).heap.size; simp) (fun k hk => by cases hk)
  have hb2 := below3_put hb (Nat.le_refl _) (.string c) vN vS
  have hne : vS.ownBlock ≠ some w3.heap.size := own_blk_ne hO hZ (by decide)
  refine ⟨h.next hb2, hb2, blk3_put hZ _ _ _, ?_⟩
  exact row_store_ne (row_store_ne (row_store_ne hO hne _) hne _) hne _
theorem TXc.alloc {w W : World} {cs : Array Value} (h : TXc w W cs) (o : Obj) : TXc w (W.alloc o) cs := ⟨h.b.alloc h.b.size o, h.x.alloc o⟩
end Go.Proofs.YtnkioabdpploeaaGreatDoor

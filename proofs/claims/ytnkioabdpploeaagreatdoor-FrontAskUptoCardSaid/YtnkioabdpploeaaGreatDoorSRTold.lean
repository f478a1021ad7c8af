/-
  CONTRACT of annalsref27.Told.
-/
import Derived.Test.YtnkioabdpploeaaGreatDoorRows
import Derived.Test.YtnkioabdpploeaaGreatDoorGBase
import Derived.Test.YtnkioabdpploeaaGreatDoorSFToldA
import Derived.Test.YtnkioabdpploeaaGreatDoorSRTWords
import Derived.Test.YtnkioabdpploeaaGreatDoorSFew
import Derived.Test.YtnkioabdpploeaaGreatDoorGApt
set_option linter.unusedVariables false
set_option linter.unusedSimpArgs false
namespace Go.Proofs.YtnkioabdpploeaaGreatDoor
open Go.RowKit Go.Lib
theorem undA_num (x : ByteArray) : ∃ z : Nat, undA x = .tuple #[.int .i64 (numV x), .int .i64 (z : Int)] := by
  unfold numV
  cases h : undV x with
  | none => exact ⟨42, undA_none h⟩
  | some n => exact ⟨0, undA_some h⟩
theorem rundec_num (x : ByteArray) (w : World) (hx : x.size ≤ 1099511627776) : Calls Tryz.prog 26 #[.string x] w fun e w' => (∃ z : Nat, e = .returned (.tuple #[.int .i64 (numV x), .int .i64 (z : Int)])) ∧ w = w' := by
  obtain ⟨z, hz⟩ := undA_num x
  refine (rundec_any x w hx).mono ?_
  rintro e w' ⟨rfl, rfl⟩
  exact ⟨⟨z, by rw [hz]⟩, rfl⟩
theorem row_ty {w : World} {base : Nat} {e t : TypeId} {size n g j : Nat} {v : Value} {xs : List Value} {cs : Array Value} (h : w.ownsRow base e size v n xs) (hB : Blk w g t cs) (hne : e ≠ t) (u : Value) : (w.setCell ⟨g, j, none⟩ u).ownsRow base e size v n xs := row_store_ne h (own_blk_ne h hB hne) u
/-- A reply that is being read. -/
structure RdX (w1 W : World) (c : Int) (vn vs : Value) (N : List Int) (S : List ByteArray) : Prop where
  s : Blk W w1.heap.size 44 (repC c vn vs)
  n : OwnI W (w1.heap.size + 1) vn N
  t : OwnT W (w1.heap.size + 1) vs S
  b : Below w1.heap.size w1 W
theorem RdX.call {w1 W W' : World} {c : Int} {vn vs : Value} {N : List Int} {S : List ByteArray} (h : RdX w1 W c vn vs N S) (hb : Below W.heap.size W W') : RdX w1 W' c vn vs N S :=
  ⟨h.s.below hb h.s.lt, row_low h.n (fun k hk => (World.ownsRow.lt h.n k hk).2) hb, h.t.below hb, h.b.trans (hb.mono h.b.size)⟩
theorem RdX.appN {w1 W W' : World} {c : Int} {vn vn' vs : Value} {N N' : List Int} {S : List ByteArray} {o : Obj} (h : RdX w1 W c vn vs N S) (hO : OwnI W' (w1.heap.size + 1) vn' N') (hg : (W.alloc o).grownBy W' vn.ownBlock) :
    RdX w1 (W'.setCell ⟨w1.heap.size, 1, none⟩ vn') c vn' vs N' S := by
  have hn := World.ownsRow.alloc h.n o
  have ht := World.ownsRow.alloc h.t o
  have hs1 : Blk W' w1.heap.size 44 (repC c vn vs) := (h.s.alloc o).grown hg (fun e => own_blk_ne hn (h.s.alloc o) (by decide) e.symm)
  have ht1 : OwnT W' (w1.heap.size + 1) vs S := World.ownsRow.kept ht hg (row_ne ht hn (by decide))
  refine ⟨?_, row_ty hO hs1 (by decide) _, row_ty ht1 hs1 (by decide) _, ?_⟩
  · have h2 := hs1.set_ 1 vn'
    simpa [repC] using h2
  · exact ((h.b.alloc h.b.size o).grown hg (by have := h.b.size; simp; omega) (fun q hq => by have := (World.ownsRow.lt hn q hq).1; omega)).setCell (p := ⟨w1.heap.size, 1, none⟩) (Nat.le_refl _) _
theorem RdX.appT {w1 W W' : World} {c : Int} {vn vs vs' : Value} {N : List Int} {S S' : List ByteArray} {o : Obj} (h : RdX w1 W c vn vs N S) (hO : OwnT W' (w1.heap.size + 1) vs' S') (hg : (W.alloc o).grownBy W' vs.ownBlock) :
    RdX w1 (W'.setCell ⟨w1.heap.size, 2, none⟩ vs') c vn vs' N S' := by
  have hn := World.ownsRow.alloc h.n o
  have ht := World.ownsRow.alloc h.t o
  have hs1 : Blk W' w1.heap.size 44 (repC c vn vs) := (h.s.alloc o).grown hg (fun e => own_blk_ne ht (h.s.alloc o) (by decide) e.symm)
  have hn1 : OwnI W' (w1.heap.size + 1) vn N := World.ownsRow.kept hn hg (row_ne hn ht (by decide))
  refine ⟨?_, row_ty hn1 hs1 (by decide) _, row_ty hO hs1 (by decide) _, ?_⟩
  · have h2 := hs1.set_ 2 vs'
    simpa [repC] using h2
  · exact ((h.b.alloc h.b.size o).grown hg (by have := h.b.size; simp; omega) (fun q hq => by have := (World.ownsRow.lt ht q hq).1; omega)).setCell (p := ⟨w1.heap.size, 2, none⟩) (Nat.le_refl _) _
theorem RdX.blkN {w1 W W' : World} {c : Int} {vn vs : Value} {N : List Int} {S : List ByteArray} {o : Obj} (h : RdX w1 W c vn vs N S) (hg : (W.alloc o).grownBy W' vn.ownBlock) : Blk W' w1.heap.size 44 (repC c vn vs) :=
  (h.s.alloc o).grown hg (fun e => own_blk_ne (World.ownsRow.alloc h.n o) (h.s.alloc o) (by decide) e.symm)
theorem RdX.blkT {w1 W W' : World} {c : Int} {vn vs : Value} {N : List Int} {S : List ByteArray} {o : Obj} (h : RdX w1 W c vn vs N S) (hg : (W.alloc o).grownBy W' vs.ownBlock) : Blk W' w1.heap.size 44 (repC c vn vs) :=
  (h.s.alloc o).grown hg (fun e => own_blk_ne (World.ownsRow.alloc h.t o) (h.s.alloc o) (by decide) e.symm)
theorem take_one (ws : List ByteArray) (a j n : Nat) (h : a + j < ws.length) (hn : j < n) : ((ws.drop a).take n).take (j + 1) = ((ws.drop a).take n).take j ++ [ws[a + j]] := by
  rw [List.take_succ_eq_append_getElem (by rw [List.length_take, List.length_drop]; omega)]
  simp
end Go.Proofs.YtnkioabdpploeaaGreatDoor

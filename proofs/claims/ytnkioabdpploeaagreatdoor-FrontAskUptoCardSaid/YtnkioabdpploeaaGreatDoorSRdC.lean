/-
  WORDS for annalsref27.Asked: a call that is being read.
-/
import Derived.Test.YtnkioabdpploeaaGreatDoorRows
import Derived.Test.YtnkioabdpploeaaGreatDoorGBase
import Derived.Test.YtnkioabdpploeaaGreatDoorSRTold
import Derived.Test.YtnkioabdpploeaaGreatDoorSCalA
set_option linter.unusedVariables false
set_option linter.unusedSimpArgs false
namespace Go.Proofs.YtnkioabdpploeaaGreatDoor
open Go.RowKit Go.Lib
/-- A reply that is being read. -/
structure RdXc (w1 W : World) (c : ByteArray) (vn vs : Value) (N : List Int) (S : List ByteArray) : Prop where
  s : Blk W w1.heap.size 25 (calC c vn vs)
  n : OwnI W (w1.heap.size + 1) vn N
  t : OwnT W (w1.heap.size + 1) vs S
  b : Below w1.heap.size w1 W
theorem RdXc.call {w1 W W' : World} {c : ByteArray} {vn vs : Value} {N : List Int} {S : List ByteArray} (h : RdXc w1 W c vn vs N S) (hb : Below W.heap.size W W') : RdXc w1 W' c vn vs N S :=
  ⟨h.s.below hb h.s.lt, row_low h.n (fun k hk => (World.ownsRow.lt h.n k hk).2) hb, h.t.below hb, h.b.trans (hb.mono h.b.size)⟩
theorem RdXc.appN {w1 W W' : World} {c : ByteArray} {vn vn' vs : Value} {N N' : List Int} {S : List ByteArray} {o : Obj} (h : RdXc w1 W c vn vs N S) (hO : OwnI W' (w1.heap.size + 1) vn' N') (hg : (W.alloc o).grownBy W' vn.ownBlock) :
    RdXc w1 (W'.setCell ⟨w1.heap.size, 1, none⟩ vn') c vn' vs N' S := by
  have hn := World.ownsRow.alloc h.n o
  have ht := World.ownsRow.alloc h.t o
  have hs1 : Blk W' w1.heap.size 25 (calC c vn vs) := (h.s.alloc o).grown hg (fun e => own_blk_ne hn (h.s.alloc o) (by decide) e.symm)
  have ht1 : OwnT W' (w1.heap.size + 1) vs S := World.ownsRow.kept ht hg (row_ne ht hn (by decide))
  refine ⟨?_, row_ty hO hs1 (by decide) _, row_ty ht1 hs1 (by decide) _, ?_⟩
  · have h2 := hs1.set_ 1 vn'
    simpa [calC] using h2
  · exact ((h.b.alloc h.b.size o).grown hg (by have := h.b.size; simp; omega) (fun q hq => by have := (World.ownsRow.lt hn q hq).1; omega)).setCell (p := ⟨w1.heap.size, 1, none⟩) (Nat.le_refl _) _
theorem RdXc.appT {w1 W W' : World} {c : ByteArray} {vn vs vs' : Value} {N : List Int} {S S' : List ByteArray} {o : Obj} (h : RdXc w1 W c vn vs N S) (hO : OwnT W' (w1.heap.size + 1) vs' S') (hg : (W.alloc o).grownBy W' vs.ownBlock) :
    RdXc w1 (W'.setCell ⟨w1.heap.size, 2, none⟩ vs') c vn vs' N S' := by
  have hn := World.ownsRow.alloc h.n o
  have ht := World.ownsRow.alloc h.t o
  have hs1 : Blk W' w1.heap.size 25 (calC c vn vs) := (h.s.alloc o).grown hg (fun e => own_blk_ne ht (h.s.alloc o) (by decide) e.symm)
  have hn1 : OwnI W' (w1.heap.size + 1) vn N := World.ownsRow.kept hn hg (row_ne hn ht (by decide))
  refine ⟨?_, row_ty hn1 hs1 (by decide) _, row_ty hO hs1 (by decide) _, ?_⟩
  · have h2 := hs1.set_ 2 vs'
    simpa [calC] using h2
  · exact ((h.b.alloc h.b.size o).grown hg (by have := h.b.size; simp; omega) (fun q hq => by have := (World.ownsRow.lt ht q hq).1; omega)).setCell (p := ⟨w1.heap.size, 2, none⟩) (Nat.le_refl _) _
theorem RdXc.blkN {w1 W W' : World} {c : ByteArray} {vn vs : Value} {N : List Int} {S : List ByteArray} {o : Obj} (h : RdXc w1 W c vn vs N S) (hg : (W.alloc o).grownBy W' vn.ownBlock) : Blk W' w1.heap.size 25 (calC c vn vs) :=
  (h.s.alloc o).grown hg (fun e => own_blk_ne (World.ownsRow.alloc h.n o) (h.s.alloc o) (by decide) e.symm)
theorem RdXc.blkT {w1 W W' : World} {c : ByteArray} {vn vs : Value} {N : List Int} {S : List ByteArray} {o : Obj} (h : RdXc w1 W c vn vs N S) (hg : (W.alloc o).grownBy W' vs.ownBlock) : Blk W' w1.heap.size 25 (calC c vn vs) :=
  (h.s.alloc o).grown hg (fun e => own_blk_ne (World.ownsRow.alloc h.t o) (h.s.alloc o) (by decide) e.symm)
end Go.Proofs.YtnkioabdpploeaaGreatDoor

/-
  CONTRACT of the law's sameCall: equal calls.
-/
import Derived.Test.YtnkioabdpploeaaGreatDoorRows
import Derived.Test.YtnkioabdpploeaaGreatDoorGBase
import Derived.Test.YtnkioabdpploeaaGreatDoorSSameT
set_option linter.unusedVariables false
set_option linter.unusedSimpArgs false
namespace Go.Proofs.YtnkioabdpploeaaGreatDoor
open Go.RowKit Go.Lib
set_option maxRecDepth 100000 in
set_option maxHeartbeats 2000000 in
theorem sameCall27_eq (c : ByteArray) (vn un vs us : Value) (N : List Int) (S : List ByteArray) (w : World) (hn : N.length ≤ 562949953421312) (hs : S.length ≤ 562949953421312) (h1 : IntsAt w vn N) (h2 : IntsAt w un N) (h3 : StrsAt w vs S) (h4 : StrsAt w us S) :
    Calls Tryz.prog 13 #[.agg #[.string c, vn, vs], .agg #[.string c, un, us]] w fun e w' => e = .returned (.bool true) ∧ Below w.heap.size w w' := by
  have hW : Hid (((w.alloc (.cells #[.string c, vn, vs] 25)).alloc (.cells #[.string c, un, us] 25)) = ((w.alloc (.cells #[.string c, vn, vs] 25)).alloc (.cells #[.string c, un, us] 25))) := Lib.hid rfl
  have hb : Below w.heap.size w ((w.alloc (.cells #[.string c, vn, vs] 25)).alloc (.cells #[.string c, un, us] 25)) := ((Below.refl _ _).alloc (Nat.le_refl _) _).alloc (by simp) _
  have hSI := sameInts27_eq vn un N ((w.alloc (.cells #[.string c, vn, vs] 25)).alloc (.cells #[.string c, un, us] 25)) hn (h1.below hb) (h2.below hb)
  have hST := fun n => sameTexts27_eq vs us S (((w.alloc (.cells #[.string c, vn, vs] 25)).alloc (.cells #[.string c, un, us] 25)).drewN n) hs (h3.below (show Below w.heap.size w (World.drewN _ n) from ⟨hb.os, hb.tape, hb.output, hb.size, hb.block⟩)) (h4.below (show Below w.heap.size w (World.drewN _ n) from ⟨hb.os, hb.tape, hb.output, hb.size, hb.block⟩))
  have hB1 := (Blk.new w 25 #[.string c, vn, vs]).alloc (.cells #[.string c, un, us] 25)
  have hB2 := Blk.new (w.alloc (.cells #[.string c, vn, vs] 25)) 25 #[.string c, un, us]
  obtain ⟨A1, c1, rfl, -⟩ := id h1
  obtain ⟨A2, c2, rfl, -⟩ := id h2
  obtain ⟨A3, c3, rfl, -⟩ := id h3
  obtain ⟨A4, c4, rfl, -⟩ := id h4
  have HI := hide hSI; have HT := hide hST; have HB := hide hb; have HB1 := hide (And.intro hB1 hB2)
  clear hSI hST hb hB1 hB2 h1 h2 h3 h4
  go_enter Tryz.func13, Tryz.ntmps13
  go_upto_region 1 with fail
  generalize ((w.alloc (.cells #[.string c, .slice A1 N.length c1, .slice A3 S.length c3] 25)).alloc (.cells #[.string c, .slice A2 N.length c2, .slice A4 S.length c4] 25)) = w2 at *
  have j1 := (unhide HB1).1.cell 1; have j2 := (unhide HB1).2.cell 1
  rw [World.size_alloc] at j2
  simp only [List.getElem?_toArray, List.getElem?_cons_zero, List.getElem?_cons_succ] at j1 j2
  go_wp2_with fail
  refine (unhide HI).mono ?_
  rintro e1 w3 ⟨rfl, n1, rfl⟩
  have k0 : (w2.drewN n1).cell? ⟨w.heap.size, 0, none⟩ = some (.string c) := (unhide HB1).1.cell 0
  have k2 : (w2.drewN n1).cell? ⟨w.heap.size, 2, none⟩ = some (.slice A3 S.length c3) := (unhide HB1).1.cell 2
  have l0 : (w2.drewN n1).cell? ⟨w.heap.size + 1, 0, none⟩ = some (.string c) := by have h := (unhide HB1).2.cell 0; rw [World.size_alloc] at h; exact h
  have l2 : (w2.drewN n1).cell? ⟨w.heap.size + 1, 2, none⟩ = some (.slice A4 S.length c4) := by have h := (unhide HB1).2.cell 2; rw [World.size_alloc] at h; exact h
  clear j1 j2 HI
  go_wp2_with fail
  refine (unhide HT n1).mono ?_
  rintro e2 w4 ⟨rfl, n2, rfl⟩
  have k0 : (w2.drewN (n1 + n2)).cell? ⟨w.heap.size, 0, none⟩ = some (.string c) := (unhide HB1).1.cell 0
  have l0 : (w2.drewN (n1 + n2)).cell? ⟨w.heap.size + 1, 0, none⟩ = some (.string c) := by have h := (unhide HB1).2.cell 0; rw [World.size_alloc] at h; exact h
  go_wp2_with fail
  go_ret
  exact ⟨rfl, ⟨(unhide HB).os, (unhide HB).tape, (unhide HB).output, (unhide HB).size, (unhide HB).block⟩⟩
end Go.Proofs.YtnkioabdpploeaaGreatDoor

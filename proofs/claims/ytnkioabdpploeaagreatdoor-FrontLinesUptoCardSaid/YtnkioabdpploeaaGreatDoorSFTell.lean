/-
  CONTRACT of front.Tell.
-/
import Derived.Test.YtnkioabdpploeaaGreatDoorRows
import Derived.Deep.RegionHeld3
import Derived.Test.YtnkioabdpploeaaGreatDoorGBase
import Derived.Test.YtnkioabdpploeaaGreatDoorSFLine
import Derived.Test.YtnkioabdpploeaaGreatDoorSRTell
set_option linter.unusedVariables false
set_option linter.unusedSimpArgs false
namespace Go.Proofs.YtnkioabdpploeaaGreatDoor
open Go.RowKit Go.Lib
structure TX (w W : World) (cs : Array Value) : Prop where
  b : Below w.heap.size w W
  x : Blk W w.heap.size 44 cs
theorem TX.next {w W W' : World} {cs : Array Value} (h : TX w W cs) (hb : Below W.heap.size W W') : TX w W' cs := ⟨h.b.trans (hb.mono h.b.size), h.x.below hb h.x.lt⟩
theorem TX.drew {w W : World} {cs : Array Value} (h : TX w W cs) : TX w W.drew cs := ⟨h.b.drew, h.x.drew⟩
theorem own2 (W : World) (base : Nat) (hb : base ≤ W.heap.size) (x y : ByteArray) : OwnT (W.alloc (.cells #[.string x, .string y] 9)) base (.slice (some ⟨W.heap.size, 0, none⟩) 2 2) [x, y] :=
  World.ownsRow_lit W #[.string x, .string y] 2 hb (by simp [maxLen]) rfl
set_option maxRecDepth 100000 in
set_option maxHeartbeats 1000000 in
theorem ftell_any (r : RpR) (vn vs : Value) (w : World) (hN : IntsAt w vn r.ns) (hS : StrsAt w vs r.ss) (hok : RpOk r) :
    Calls Tryz.prog 16 #[.agg #[.int .i64 r.c, vn, vs]] w fun e w' => e = .returned (.string (tellB r)) ∧ Below w.heap.size w w' := by
  obtain ⟨A, c, rfl, -⟩ := id hN
  obtain ⟨B, d, rfl, -⟩ := id hS
  have hX : TX w (w.alloc (.cells #[.int .i64 r.c, .slice A r.ns.length c, .slice B r.ss.length d] 44)) #[.int .i64 r.c, .slice A r.ns.length c, .slice B r.ss.length d] := ⟨(Below.refl _ _).alloc (Nat.le_refl _) _, Blk.new _ _ _⟩
  have hl := hok.l
  have hC := fun W => dec_any r.c W hok.c.1 hok.c.2
  have hL := fun W => dec_any (r.ns.length : Int) W (by omega) (by omega)
  have hzz : (joinSp (decS r.c :: decS r.ns.length :: (r.ns.map decS ++ r.ss.map escS))).length ≤ 140737488355328 := by
    have h := hok.z
    have e : (tellB r).size = (joinSp (tellW r)).length := by show (List.toArray _).size = _; rw [List.size_toArray]
    rw [e] at h
    show (joinSp (tellW r)).length ≤ _
    omega
  have hLN := fun W (hW : Below w.heap.size w W) => fline_any (.slice (some ⟨W.heap.size, 0, none⟩) 2 2) [decS r.c, decS r.ns.length] _ _ r.ns r.ss W (W.alloc (.cells #[.string (decS r.c), .string (decS r.ns.length)] 9)) (own2 W _ (Nat.le_refl _) _ _) ((Below.refl _ _).alloc (Nat.le_refl _) _) (hN.below hW) (hS.below hW) (by simp) hok.n hok.s (by simp; omega) hzz
  have HLN := hide hLN; have HC := hide hC; have HL := hide hL; have H0 := hide hX
  clear hLN hC hL hX hN hS hok hzz
  obtain ⟨rc, rn, rs⟩ := r
  simp only at *
  have hT : ∀ q : ByteArray, q = tellB ⟨rc, rn, rs⟩ → q = tellB ⟨rc, rn, rs⟩ := fun _ h => h
  clear hT
  have htl : tellB ⟨rc, rn, rs⟩ = bsL (joinSp ([decS rc, decS rn.length] ++ rn.map decS ++ rs.map escS)) := rfl
  rw [← htl] at HLN
  clear htl
  generalize tellB ⟨rc, rn, rs⟩ = T at *
  generalize decS rc = X at *
  generalize decS (rn.length : Int) = Y at *
  go_enter Tryz.func16, Tryz.ntmps16
  go_upto_region 1 with fail
  have c0 := (unhide H0).x.cell 0; have c1 := (unhide H0).x.cell 1; have c2 := (unhide H0).x.cell 2
  simp only [List.getElem?_toArray, List.getElem?_cons_zero, List.getElem?_cons_succ] at c0 c1 c2
  generalize (w.alloc (.cells #[.int .i64 rc, .slice A rn.length c, .slice B rs.length d] 44)) = w0 at *
  have n0 : w.heap.size ≠ w0.heap.size := by have := (unhide H0).x.lt; omega
  go_region_held3 (fun W => W.cell? ⟨w.heap.size, 0, none⟩ = some (.int .i64 rc) ∧ W.cell? ⟨w.heap.size, 1, none⟩ = some (.slice A rn.length c) ∧ W.cell? ⟨w.heap.size, 2, none⟩ = some (.slice B rs.length d)) (first | (refine ⟨?_, ?_, ?_⟩ <;> assumption) | go_keep) (first
    | (go_at_call 31; first | (with_reducible refine ((unhide HC) w0.drew).mono ?_) | (with_reducible refine ((unhide HL) w0.drew).mono ?_)
       rintro e W1 ⟨rfl, hb1⟩; have H1 := hide ((unhide H0).drew.next hb1); clear hb1
       have a0 := (unhide H1).x.cell 0; have a1 := (unhide H1).x.cell 1; have a2 := (unhide H1).x.cell 2
       simp only [List.getElem?_toArray, List.getElem?_cons_zero, List.getElem?_cons_succ] at a0 a1 a2
       have n1 : w.heap.size ≠ W1.heap.size := by have := (unhide H1).x.lt; omega)
    | (go_at_call 31; first | (with_reducible refine ((unhide HC) W1).mono ?_) | (with_reducible refine ((unhide HL) W1).mono ?_)
       rintro e W2 ⟨rfl, hb2⟩; have H2 := hide ((unhide H1).next hb2); clear hb2
       have b0 := (unhide H2).x.cell 0; have b1 := (unhide H2).x.cell 1; have b2 := (unhide H2).x.cell 2
       simp only [List.getElem?_toArray, List.getElem?_cons_zero, List.getElem?_cons_succ] at b0 b1 b2
       have n2 : w.heap.size ≠ W2.heap.size := by have := (unhide H2).x.lt; omega)
    | (go_at_call 20; refine ((unhide HLN) W2 (unhide H2).b).mono ?_
       rintro e W3 ⟨rfl, hb3⟩; have H3 := hide ((unhide H2).next hb3); clear hb3
       have d0 := (unhide H3).x.cell 0; have d1 := (unhide H3).x.cell 1; have d2 := (unhide H3).x.cell 2
       simp only [List.getElem?_toArray, List.getElem?_cons_zero, List.getElem?_cons_succ] at d0 d1 d2))
  all_goals
    go_wp2_with fail
    go_ret
    exact ⟨rfl, (unhide H3).b⟩
end Go.Proofs.YtnkioabdpploeaaGreatDoor

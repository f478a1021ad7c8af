/-
  THE WALK of the law FrontAsk.
-/
import Derived.Test.YtnkioabdpploeaaGreatDoorRows
import Derived.Deep.RegionHeld3
import Derived.Deep.CutRange
import Derived.Deep.CutBlock
import Derived.Test.YtnkioabdpploeaaGreatDoorGBase
import Derived.Test.YtnkioabdpploeaaGreatDoorSCallW
import Derived.Test.YtnkioabdpploeaaGreatDoorSAsk27
set_option linter.unusedVariables false
set_option linter.unusedSimpArgs false
namespace Go.Proofs.YtnkioabdpploeaaGreatDoor
open Go.RowKit Go.Lib
set_option maxRecDepth 100000 in
set_option maxHeartbeats 4000000 in
theorem lawFrontAsk_any (c : ByteArray) (N : List Int) (S : List ByteArray) (vn vs : Value) (line : ByteArray) (w : World) (hi : ∀ z ∈ N, In64 z) (hN : IntsAt w vn N) (hS : StrsAt w vs S) (hk : N.length + sizeS S ≤ 1048576) (hl : line.size ≤ 1048577) :
    Calls Tryz.prog 3 #[.agg #[.string c, vn, vs], .string line] w fun e W' => e = .returned (.bool true) ∧ Below w.heap.size w W' := by
  have hNl : N.length ≤ 1048576 := by omega
  have hSl : S.length ≤ 1048576 := by have := sizeS_len S; omega
  have hSz : ∀ x ∈ S, x.size ≤ 1048576 := fun x hx => by have := sizeS_mem hx; omega
  have hX0 : TXc w (w.alloc (.cells #[.string c, vn, vs] 25)) #[.string c, vn, vs] := ⟨(Below.refl _ _).alloc (Nat.le_refl _) _, Blk.new _ _ _⟩
  have hXr : Xrc w (w.alloc (.cells #[.string c, vn, vs] 25)) #[.string c, vn, vs] N S none none none := ⟨hX0, (fun g c e => by cases e), (fun g c e => by cases e), (fun g e => by cases e)⟩
  have hxi := fun W ot oa h => xrc_ints (cs := #[.string c, vn, vs]) (S := S) hN (by omega) W ot oa h
  have hxw := fun W oi oa h => xrc_words (cs := #[.string c, vn, vs]) (N := N) hS (by omega) W oi oa h
  obtain ⟨A, ca, rfl, -⟩ := id hN
  obtain ⟨B, cb, rfl, -⟩ := id hS
  have HXI := hide hxi; have HXW := hide hxw; have HX0 := hide hXr
  have HARG := hide (And.intro (show c = c from rfl) (And.intro hi (And.intro hN (And.intro hS hSz))))
  clear hX0 hXr hxi hxw hi hN hS hSz hk
  go_enter Tryz.func3, Tryz.ntmps3
  go_upto_region 1 with fail
  have b0 := (unhide HX0).t.x.cell 0; have b1 := (unhide HX0).t.x.cell 1; have b2 := (unhide HX0).t.x.cell 2
  simp only [List.getElem?_toArray, List.getElem?_cons_zero, List.getElem?_cons_succ] at b0 b1 b2
  have hlw : Hid (w.heap.size < (w.alloc (.cells #[.string c, .slice A N.length ca, .slice B S.length cb] 25)).heap.size) := Lib.hid (unhide HX0).t.x.lt
  generalize (w.alloc (.cells #[.string c, .slice A N.length ca, .slice B S.length cb] 25)) = w0 at *
  go_cut [5] (fun s5 wx => ∃ g5 gN cN gS cS, s5 = .pointer (some ⟨g5, 0, none⟩) ∧ Hid (Rgc w wx #[.string c, .slice A N.length ca, .slice B S.length cb] c N S g5 gN cN gS cS))
  case first =>
    have n0 : w.heap.size ≠ w0.heap.size := by have := hlw.out; omega
    have n0' := n0.symm
    go_region_held3 (fun W => W.cell? ⟨w.heap.size, 0, none⟩ = some (.string c) ∧ W.cell? ⟨w.heap.size, 1, none⟩ = some (.slice A N.length ca) ∧ W.cell? ⟨w.heap.size, 2, none⟩ = some (.slice B S.length cb)) (first | (refine ⟨?_, ?_, ?_⟩ <;> assumption) | go_keep) (first
      | (go_at_call 5; first
          | (with_reducible refine ((unhide HXI) w0.drew none none (unhide HX0).drew).mono ?_)
          | (with_reducible refine ((unhide HXI) _ _ _ (unhide HXT)).mono ?_)
          | (with_reducible refine ((unhide HXI) _ _ _ (unhide HXT).alloc).mono ?_)
          | (with_reducible refine ((unhide HXI) _ _ _ (unhide HX0).alloc.drew).mono ?_)
          | (with_reducible refine ((unhide HXI) _ _ _ (unhide HX0).drew.alloc).mono ?_)
         rintro e wi ⟨gN, cN, rfl, hXI⟩; have HXN := hide hXI; clear hXI
         have a0 := (unhide HXN).t.x.cell 0; have a1 := (unhide HXN).t.x.cell 1; have a2 := (unhide HXN).t.x.cell 2
         simp only [List.getElem?_toArray, List.getElem?_cons_zero, List.getElem?_cons_succ] at a0 a1 a2
         have n1 : w.heap.size ≠ wi.heap.size := by have := (unhide HXN).t.x.lt; omega
         have n1' := n1.symm
         (try (have hz := ((unhide HXN).a _ rfl).1
               have z0 := hz.cell 0; have z1 := hz.cell 1; have z2 := hz.cell 2
               have f0 := hz.frozen 0; have f1 := hz.frozen 1; have f2 := hz.frozen 2
               simp only [List.getElem?_toArray, List.getElem?_cons_zero, List.getElem?_cons_succ] at z0 z1 z2
               clear hz)))
      | (go_at_call 6; first
          | (with_reducible refine ((unhide HXW) w0.drew none none (unhide HX0).drew).mono ?_)
          | (with_reducible refine ((unhide HXW) _ _ _ (unhide HXN)).mono ?_)
          | (with_reducible refine ((unhide HXW) _ _ _ (unhide HXN).alloc).mono ?_)
          | (with_reducible refine ((unhide HXW) _ _ _ (unhide HX0).alloc.drew).mono ?_)
          | (with_reducible refine ((unhide HXW) _ _ _ (unhide HX0).drew.alloc).mono ?_)
         rintro e wt ⟨gS, cS, rfl, hXT⟩; have HXT := hide hXT; clear hXT
         have d0 := (unhide HXT).t.x.cell 0; have d1 := (unhide HXT).t.x.cell 1; have d2 := (unhide HXT).t.x.cell 2
         simp only [List.getElem?_toArray, List.getElem?_cons_zero, List.getElem?_cons_succ] at d0 d1 d2
         have n2 : w.heap.size ≠ wt.heap.size := by have := (unhide HXT).t.x.lt; omega
         have n2' := n2.symm
         (try (have hz := ((unhide HXT).a _ rfl).1
               have z0 := hz.cell 0; have z1 := hz.cell 1; have z2 := hz.cell 2
               have f0 := hz.frozen 0; have f1 := hz.frozen 1; have f2 := hz.frozen 2
               simp only [List.getElem?_toArray, List.getElem?_cons_zero, List.getElem?_cons_succ] at z0 z1 z2
               clear hz))))
    all_goals
      go_wp2_with fail
      go_meet
      case rel => first
        | exact ⟨_, gN, cN, gS, cS, rfl, Lib.hid (finC_new (unhide HXT))⟩
        | exact ⟨_, gN, cN, gS, cS, rfl, Lib.hid (finC_set (unhide HXT))⟩
        | exact ⟨_, gN, cN, gS, cS, rfl, Lib.hid (finC_new (unhide HXN))⟩
        | exact ⟨_, gN, cN, gS, cS, rfl, Lib.hid (finC_set (unhide HXN))⟩
  case rest =>
    obtain ⟨g5, gN, cN, gS, cS, rfl, hG⟩ := hcut
    have HG := hide hG.out
    clear b0 b1 b2 HX0 HXI HXW hG
    have r1 := (unhide HG).r.cell 1; have r2 := (unhide HG).r.cell 2
    simp only [List.getElem?_toArray, List.getElem?_cons_zero, List.getElem?_cons_succ] at r1 r2
    have hoth := others_any gN cN gS cS 1048576 N S wc (unhide HG).i (unhide HG).s (unhide HARG).2.1 (unhide HARG).2.2.2.2 (by omega) (by omega) (by omega)
    have HO := hide hoth; clear hoth
    go_wp2_with fail
    refine (unhide HO).mono ?_
    rintro e2 w2 ⟨rfl, N', S', hl1, hl2, hi2, hs2, hM2, hT2, hb2⟩
    have hG2 := (unhide HG).but hb2 hl1 hl2 hM2 hT2
    have hok : CcOk ⟨c, N', S'⟩ := ⟨hi2, fun x hx => by have := hs2 x hx; omega⟩
    have htell := fcall_any ⟨c, N', S'⟩ (.slice (some ⟨gN, 0, none⟩) N.length cN) (.slice (some ⟨gS, 0, none⟩) S.length cS) w2 (by have := hM2.ints cN; rw [hl1] at this; exact this) (by have := hT2.strs cS; rw [hl2] at this; exact this) hok (by simp only; omega) (by simp only; omega)
    unfold fcallV at htell
    generalize (if CaOk ⟨c, N', S'⟩ then callB ⟨c, N', S'⟩ else ⟨#[]⟩) = T0 at htell
    generalize (if CaOk ⟨c, N', S'⟩ then (0 : Int) else 270) = z0 at htell
    simp only at htell
    have r0 := hG2.r.cell 0; have r1 := hG2.r.cell 1; have r2 := hG2.r.cell 2
    simp only [List.getElem?_toArray, List.getElem?_cons_zero, List.getElem?_cons_succ] at r0 r1 r2
    rw [hl1] at r1
    rw [hl2] at r2
    have HT := hide htell; have H2 := hide hG2; have HL := hide (And.intro hl1 hl2)
    clear htell hG2 hi2 hs2 hM2 hT2 hb2 hok HO HG hl1 hl2
    go_wp2_with fail
    refine (unhide HT).mono ?_
    rintro e3 w3 ⟨rfl, hb3⟩
    have hG3 := (unhide H2).below hb3
    have q1 := hG3.r.cell 1; have q2 := hG3.r.cell 2
    have p1 := hG3.t.x.cell 1; have p2 := hG3.t.x.cell 2
    simp only [List.getElem?_toArray, List.getElem?_cons_zero, List.getElem?_cons_succ] at q1 q2 p1 p2
    rw [(unhide HL).1] at q1
    rw [(unhide HL).2] at q2
    have hbk := back_any gN cN gS cS N' N S' S (.slice A N.length ca) (.slice B S.length cb) w3 hG3.i hG3.s (fun W hW => (unhide HARG).2.2.1.below (hG3.t.b.trans (hW.below (Nat.le_of_lt hG3.ln) (Nat.le_of_lt hG3.ls)))) (fun W hW => (unhide HARG).2.2.2.1.below (hG3.t.b.trans (hW.below (Nat.le_of_lt hG3.ln) (Nat.le_of_lt hG3.ls)))) (unhide HL).1 (unhide HL).2 (by omega) (by omega)
    have HB := hide hbk; have H3 := hide hG3
    clear hbk hG3 hb3 HT H2 r0 r1 r2
    go_wp2_with fail
    refine (unhide HB).mono ?_
    rintro e4 w4 ⟨rfl, hM4, hT4, hb4⟩
    have hG4 := (unhide H3).but hb4 (unhide HL).1.symm (unhide HL).2.symm hM4 hT4
    have hok : CcOk ⟨c, N, S⟩ := ⟨(unhide HARG).2.1, fun x hx => by have := (unhide HARG).2.2.2.2 x hx; omega⟩
    have htell := fcall_any ⟨c, N, S⟩ (.slice (some ⟨gN, 0, none⟩) N.length cN) (.slice (some ⟨gS, 0, none⟩) S.length cS) w4 (hM4.ints cN) (hT4.strs cS) hok (by simp only; omega) (by simp only; omega)
    have hrtell := fun W (hb : Below w.heap.size w W) => rcall_any ⟨c, N, S⟩ (.slice A N.length ca) (.slice B S.length cb) W ((unhide HARG).2.2.1.below hb) ((unhide HARG).2.2.2.1.below hb) hok (by simp only; omega) (by simp only; omega)
    unfold fcallV at htell hrtell
    generalize (if CaOk ⟨c, N, S⟩ then callB ⟨c, N, S⟩ else ⟨#[]⟩) = T at htell hrtell
    generalize (if CaOk ⟨c, N, S⟩ then (0 : Int) else 270) = zT at htell hrtell
    simp only at htell
    have r0 := hG4.r.cell 0; have r1 := hG4.r.cell 1; have r2 := hG4.r.cell 2
    simp only [List.getElem?_toArray, List.getElem?_cons_zero, List.getElem?_cons_succ] at r0 r1 r2
    have HT := hide htell; have HRT := hide hrtell; have H4 := hide hG4
    clear htell hrtell hG4 hM4 hT4 hb4 hok HB H3 HL q1 q2 p1 p2
    go_wp2_with fail
    refine (unhide HT).mono ?_
    rintro e5 w5 ⟨rfl, hb5⟩
    have hG5 := (unhide H4).below hb5
    have p0 := hG5.t.x.cell 0; have p1 := hG5.t.x.cell 1; have p2 := hG5.t.x.cell 2
    simp only [List.getElem?_toArray, List.getElem?_cons_zero, List.getElem?_cons_succ] at p0 p1 p2
    have HR := hide (unhide HRT w5 hG5.t.b); have H5 := hide hG5
    clear hG5 hb5 HT HRT H4 r0 r1 r2
    go_wp2_with fail
    refine (unhide HR).mono ?_
    rintro e6 w6 ⟨rfl, hb6⟩
    have hG6 := (unhide H5).below hb6
    have hft := fun W => fasked_any line W (by omega)
    have hrt := fun W => rasked27_any line W (by omega)
    have HFT := hide hft; have HRT := hide hrt; have H6 := hide hG6
    clear hG6 hb6 HR H5 hft hrt p0 p1 p2
    go_wp2_with fail
    refine ((unhide HFT) _).mono ?_
    rintro e7 w7 ⟨hT7, hb7⟩
    obtain ⟨vnA, vsA, rfl, hnA, hsA⟩ := col_form hT7
    obtain ⟨eA, heA⟩ : ∃ e, Hid (resCE line = e) := ⟨_, Lib.hid rfl⟩
    obtain ⟨RA, hRA⟩ : ∃ R, Hid (resC line = R) := ⟨_, Lib.hid rfl⟩
    have hlR := resC_len line
    rw [hRA.out] at hnA hsA hlR ⊢
    rw [heA.out]
    obtain ⟨cA, NA, SA⟩ := RA
    simp only at hnA hsA hlR ⊢
    obtain ⟨An, can, rfl, -⟩ := id hnA.ints
    obtain ⟨As, cas, rfl, -⟩ := id (ownT_strs hsA)
    have hb8 : Below w6.heap.size w6 (w7.alloc (.cells #[.string cA, .slice An NA.length can, .slice As SA.length cas] 25)) := hb7.alloc hb7.size _
    have hG8 := (unhide H6).below hb8
    have hA8 := Blk.new w7 25 #[.string cA, .slice An NA.length can, .slice As SA.length cas]
    have hn8 : OwnI (w7.alloc (.cells #[.string cA, .slice An NA.length can, .slice As SA.length cas] 25)) w6.heap.size (.slice An NA.length can) NA := World.ownsRow.alloc hnA _
    have hs8 : OwnT (w7.alloc (.cells #[.string cA, .slice An NA.length can, .slice As SA.length cas] 25)) w6.heap.size (.slice As SA.length cas) SA := World.ownsRow.alloc hsA _
    have hlo : w.heap.size < w6.heap.size := (unhide H6).t.x.lt
    have hlt8 := hA8.lt
    have HZ68 := Lib.hid hb8.size
    have H8 := hide (And.intro hG8 (And.intro hA8 (And.intro hn8 (And.intro hs8 (And.intro hlo hlt8)))))
    have HNA := hide (And.intro hnA hsA)
    clear hb8 hG8 hA8 hn8 hs8 hlo hlt8 hnA hsA hT7 hb7 H6
    go_wp2_with fail
    refine ((unhide HRT) _).mono ?_
    rintro e8 w9 ⟨hT9, hb9⟩
    obtain ⟨vnB, vsB, rfl, hnB, hsB⟩ := col_form hT9
    rw [hRA.out] at hnB hsB ⊢
    rw [heA.out]
    simp only at hnB hsB ⊢
    obtain ⟨Bn, cbn, rfl, -⟩ := id hnB.ints
    obtain ⟨Bs, cbs, rfl, -⟩ := id (ownT_strs hsB)
    have hb10 : Below (w7.alloc (.cells #[.string cA, .slice An NA.length can, .slice As SA.length cas] 25)).heap.size (w7.alloc (.cells #[.string cA, .slice An NA.length can, .slice As SA.length cas] 25)) (w9.alloc (.cells #[.string cA, .slice Bn NA.length cbn, .slice Bs SA.length cbs] 25)) := hb9.alloc hb9.size _
    have hG10 := (unhide H8).1.below hb10
    have hA10 := (unhide H8).2.1.below hb10 (unhide H8).2.2.2.2.2
    have hn10 : OwnI (w9.alloc (.cells #[.string cA, .slice Bn NA.length cbn, .slice Bs SA.length cbs] 25)) w6.heap.size (.slice An NA.length can) NA := row_low (unhide H8).2.2.1 (fun k hk => (World.ownsRow.lt (unhide H8).2.2.1 k hk).2) hb10
    have hs10 : OwnT (w9.alloc (.cells #[.string cA, .slice Bn NA.length cbn, .slice Bs SA.length cbs] 25)) w6.heap.size (.slice As SA.length cas) SA := row_low (unhide H8).2.2.2.1 (fun k hk => (World.ownsRow.lt (unhide H8).2.2.2.1 k hk).2) hb10
    have hltN : ∀ k, (Value.slice An NA.length can).ownBlock = some k → k < (w7.alloc (.cells #[.string cA, .slice An NA.length can, .slice As SA.length cas] 25)).heap.size := fun k hk => (World.ownsRow.lt (unhide H8).2.2.1 k hk).2
    have hltS : ∀ k, (Value.slice As SA.length cas).ownBlock = some k → k < (w7.alloc (.cells #[.string cA, .slice An NA.length can, .slice As SA.length cas] 25)).heap.size := fun k hk => (World.ownsRow.lt (unhide H8).2.2.2.1 k hk).2
    have hF10 : Fbc w (w9.alloc (.cells #[.string cA, .slice Bn NA.length cbn, .slice Bs SA.length cbs] 25)) w7.heap.size w9.heap.size (w7.alloc (.cells #[.string cA, .slice An NA.length can, .slice As SA.length cas] 25)).heap.size cA (.slice An NA.length can) (.slice As SA.length cas) (.slice Bn NA.length cbn) (.slice Bs SA.length cbs) NA SA :=
      ⟨hG10.t.b, hA10, Blk.new _ _ _, World.ownsRow.alloc hnB _, World.ownsRow.alloc hsB _, hb10.size⟩
    have hcall := sameCall27_eq cA _ _ _ _ NA SA (w9.alloc (.cells #[.string cA, .slice Bn NA.length cbn, .slice Bs SA.length cbs] 25)) (by omega) (by omega) hn10.ints (OwnI.ints hF10.n) (ownT_strs hs10) (ownT_strs hF10.s)
    have x0 := hF10.a.cell 0; have x1 := hF10.a.cell 1; have x2 := hF10.a.cell 2
    simp only [List.getElem?_toArray, List.getElem?_cons_zero, List.getElem?_cons_succ] at x0 x1 x2
    have HC := hide hcall; have HF := hide (And.intro hG10 (And.intro hn10 (And.intro hs10 hF10))); have HLT := hide (And.intro hltN hltS)
    have HLO := Lib.hid (unhide H8).2.2.2.2.1
    have hlw9 : w7.heap.size ≠ w9.heap.size := fun e => by have := hb9.size; have := (unhide H8).2.2.2.2.2; omega
    clear hcall hG10 hA10 hn10 hs10 hF10 hltN hltS hb10 hb9 hnB hsB hT9 H8
    go_wp2_with fail
    generalize (w9.alloc (.cells #[.string cA, .slice Bn NA.length cbn, .slice Bs SA.length cbs] 25)) = w10 at *
    generalize (w7.alloc (.cells #[.string cA, .slice An NA.length can, .slice As SA.length cas] 25)).heap.size = b8 at *
    generalize w9.heap.size = g10 at *
    generalize w7.heap.size = g8 at *
    refine (unhide HC).mono ?_
    rintro e11 w11 ⟨rfl, hb11⟩
    have hG11 := (unhide HF).1.below hb11
    have hn11 : OwnI w11 w6.heap.size (.slice An NA.length can) NA := row_low (unhide HF).2.1 (fun k hk => (World.ownsRow.lt (unhide HF).2.1 k hk).2) hb11
    have hs11 : OwnT w11 w6.heap.size (.slice As SA.length cas) SA := row_low (unhide HF).2.2.1 (fun k hk => (World.ownsRow.lt (unhide HF).2.2.1 k hk).2) hb11
    have hF11 := (unhide HF).2.2.2.call hb11
    have hkp := kept_any gN cN gS cS N S (.slice A N.length ca) (.slice B S.length cb) w11 hG11.i hG11.s ((unhide HARG).2.2.1.below hG11.t.b) ((unhide HARG).2.2.2.1.below hG11.t.b) (by omega) (by omega)
    have r1 := hG11.r.cell 1; have r2 := hG11.r.cell 2
    have p1 := hG11.t.x.cell 1; have p2 := hG11.t.x.cell 2
    simp only [List.getElem?_toArray, List.getElem?_cons_zero, List.getElem?_cons_succ] at r1 r2 p1 p2
    have HK := hide hkp; have H11 := hide (And.intro hn11 (And.intro hs11 hF11))
    clear hkp hG11 hn11 hs11 hF11 hb11 HC HF x0 x1 x2 hlw9
    go_wp2_with fail
    refine (unhide HK).mono ?_
    rintro e12 w12 ⟨rfl, nd, rfl⟩
    have hbd : Below w11.heap.size w11 (w11.drewN nd) := ⟨rfl, rfl, rfl, Nat.le_refl _, fun _ _ => rfl⟩
    have H12 := hide (And.intro (show OwnI (w11.drewN nd) w6.heap.size (.slice An NA.length can) NA from (unhide H11).1) (And.intro (show OwnT (w11.drewN nd) w6.heap.size (.slice As SA.length cas) SA from (unhide H11).2.1) ((unhide H11).2.2.call hbd)))
    have hTl : (T.toList == T.toList) = true := beq_self_eq_true _
    have hTz : (zT == zT) = true := beq_self_eq_true _
    have hee : ((eA : Int) == eA) = true := beq_self_eq_true _
    clear HK H11 hbd r1 r2 p1 p2
    go_wp2_with fail
    generalize w11.drewN nd = w12 at *
    go_loopw [16] (fun i W => ∃ (j : Nat) (l : List Int), i = .int .i64 (j : Int) ∧ j ≤ NA.length ∧ Hid (l.length = NA.length) ∧ OwnI W w6.heap.size (.slice An NA.length can) l ∧ OwnT W w6.heap.size (.slice As SA.length cas) SA ∧ Fbc w W g8 g10 b8 cA (.slice An NA.length can) (.slice As SA.length cas) (.slice Bn NA.length cbn) (.slice Bs SA.length cbs) NA SA) (fun i _ => NA.length - (RowKit.intOf i).toNat)
    case atStart => exact ⟨0, NA, rfl, Nat.zero_le _, Lib.hid rfl, unhide H12⟩
    case round =>
      obtain ⟨j, l, rfl, hj, hll, hI, hT, hF⟩ := hrel
      clear H12
      have t0 : (0 : Int) ≤ (j : Int) := by omega
      have a1 := hF.a.cell 1
      simp only [List.getElem?_toArray, List.getElem?_cons_zero, List.getElem?_cons_succ] at a1
      rcases Nat.lt_or_ge j NA.length with hlt | hge
      · have t1 : (j : Int) < (NA.length : Int) := by omega
        have qb : j ≤ 1099511627776 := by omega
        obtain ⟨A', c', hv, hg⟩ := row_form hI
        injection hv with e1 e2 e3
        subst e1
        obtain ⟨g, rfl⟩ := hg (by rw [hll.out]; omega)
        obtain ⟨c0, f0⟩ := hI.at_ hll.out j hlt
        have hI2 := hI.set hll.out j hlt (-1)
        have hT2 := row_store_ne (j := j) hT (by
          rcases row_ne hT hI (by decide) with h1 | h1
          · rw [h1]; simp
          · exact h1) (.int .i64 (-1))
        have hF2 := hF.grown (v := .slice (some ⟨g, 0, none⟩) NA.length can) (gby_set (j := j) (gby_refl wr _) (.int .i64 (-1))) hI (Nat.le_of_lt HLO.out) (by decide) (unhide HLT).1
        generalize l[j]'(by rw [hll.out]; exact hlt) = x at *
        have HX := hide (And.intro hI2 (And.intro hT2 hF2))
        have hl2 : Hid ((l.set j (-1)).length = NA.length) := Lib.hid (by rw [List.length_set]; exact hll.out)
        clear hI hT hF hI2 hT2 hF2 hll hg e3
        go_wp2_with fail
        exact ⟨⟨j + 1, _, by go_num, by omega, hl2, (unhide HX).1, (unhide HX).2.1, (unhide HX).2.2⟩, by simp [RowKit.intOf]; omega⟩
      · have t1 : ¬ (j : Int) < (NA.length : Int) := by omega
        have HX := hide (And.intro hI (And.intro hT hF))
        clear hI hT hF
        go_wp2_with fail
        obtain ⟨w13, rfl⟩ : ∃ w13 : World, w13 = wr := ⟨_, rfl⟩
        go_loopw [17] (fun i W => ∃ (q : Nat) (s : List ByteArray), i = .int .i64 (q : Int) ∧ q ≤ SA.length ∧ Hid (s.length = SA.length) ∧ OwnI W w6.heap.size (.slice An NA.length can) l ∧ OwnT W w6.heap.size (.slice As SA.length cas) s ∧ Fbc w W g8 g10 b8 cA (.slice An NA.length can) (.slice As SA.length cas) (.slice Bn NA.length cbn) (.slice Bs SA.length cbs) NA SA) (fun i _ => SA.length - (RowKit.intOf i).toNat)
        case atStart => exact ⟨0, SA, rfl, Nat.zero_le _, Lib.hid rfl, unhide HX⟩
        case round =>
          obtain ⟨q, s, rfl, hq, hsl, hI, hT, hF⟩ := hrel
          clear HX
          have t2 : (0 : Int) ≤ (q : Int) := by omega
          have a1 := hF.a.cell 1; have a2 := hF.a.cell 2
          simp only [List.getElem?_toArray, List.getElem?_cons_zero, List.getElem?_cons_succ] at a1 a2
          rcases Nat.lt_or_ge q SA.length with hlt | hge2
          · have t3 : (q : Int) < (SA.length : Int) := by omega
            have qb : q ≤ 1099511627776 := by omega
            obtain ⟨A', c', hv, hg⟩ := row_form hT
            injection hv with e1 e2 e3
            subst e1
            obtain ⟨g, rfl⟩ := hg (by rw [hsl.out]; omega)
            obtain ⟨c0, f0⟩ := hT.at_ hsl.out q hlt
            have hT2 := hT.set hsl.out q hlt ⟨#[111, 110, 101]⟩
            have hI2 := row_store_ne (j := q) hI (by
              rcases row_ne hI hT (by decide) with h1 | h1
              · rw [h1]; simp
              · exact h1) (.string ⟨#[111, 110, 101]⟩)
            have hF2 := hF.grown (v := .slice (some ⟨g, 0, none⟩) SA.length cas) (gby_set (j := q) (gby_refl wr _) (.string ⟨#[111, 110, 101]⟩)) hT (Nat.le_of_lt HLO.out) (by decide) (unhide HLT).2
            generalize s[q]'(by rw [hsl.out]; exact hlt) = x at *
            have HX := hide (And.intro hI2 (And.intro hT2 hF2))
            have hl2 : Hid ((s.set q ⟨#[111, 110, 101]⟩).length = SA.length) := Lib.hid (by rw [List.length_set]; exact hsl.out)
            clear hI hT hF hI2 hT2 hF2 hsl hg e3
            go_wp2_with fail
            exact ⟨⟨q + 1, _, by go_num, by omega, hl2, (unhide HX).1, (unhide HX).2.1, (unhide HX).2.2⟩, by simp [RowKit.intOf]; omega⟩
          · have t3 : ¬ (q : Int) < (SA.length : Int) := by omega
            have hnl : Hid (l.length = NA.length) := hll
            have hbI : Below wr.heap.size wr (wr.alloc (.cells #[.int .i64 (-1), .int .i64 (-1)] 3)) := (Below.refl _ _).alloc (Nat.le_refl _) _
            have hz6 : w6.heap.size ≤ (wr.alloc (.cells #[.int .i64 (-1), .int .i64 (-1)] 3)).heap.size := Nat.le_trans HZ68.out (Nat.le_trans hF.z hbI.size)
            have hI1 : OwnI (wr.alloc (.cells #[.int .i64 (-1), .int .i64 (-1)] 3)) w6.heap.size (.slice An NA.length can) l := World.ownsRow.alloc hI _
            have hT1 : OwnT (wr.alloc (.cells #[.int .i64 (-1), .int .i64 (-1)] 3)) w6.heap.size (.slice As SA.length cas) s := World.ownsRow.alloc hT _
            have HX := hide (And.intro hI1 (And.intro hT1 (And.intro (hF.call hbI) (And.intro hz6 (lit2I wr (-1) (-1))))))
            have hlb : Hid (l.length + 2 ≤ 4398046511104 ∧ s.length + 2 ≤ 4398046511104) := Lib.hid ⟨by rw [hnl.out]; omega, by rw [hsl.out]; omega⟩
            clear hI hT hF hI1 hT1 hz6 hbI
            go_upto_region 22 with (at_builtin; go_must (refine wpList_appI _ rfl _ _ rfl (unhide HX).1 rfl (unhide HX).2.2.2.2 rfl hlb.out.1 (unhide HX).2.2.2.1 ?_); intro v1 w14 hO1 hg1 hat1; obtain ⟨A1, c1, rfl, -⟩ := id hO1.ints; have HG1 := hide (And.intro hO1 hg1); clear hO1 hg1 hat1)
            have hF14 := (unhide HX).2.2.1.grown (unhide HG1).2 (unhide HX).1 (Nat.le_of_lt HLO.out) (by decide) (unhide HLT).1
            have hT14 : OwnT w14 w6.heap.size (.slice As SA.length cas) s := World.ownsRow.kept (unhide HX).2.1 (unhide HG1).2 (row_ne (unhide HX).2.1 (unhide HX).1 (by decide))
            have hle : l.length + 2 = NA.length + 2 := by rw [hnl.out]
            rw [hle]
            have a2 := hF14.a.cell 2
            simp only [List.getElem?_toArray, List.getElem?_cons_zero, List.getElem?_cons_succ] at a2
            have hbI : Below w14.heap.size w14 (w14.alloc (.cells #[.string ⟨#[111, 110, 101]⟩, .string ⟨#[111, 110, 101]⟩] 9)) := (Below.refl _ _).alloc (Nat.le_refl _) _
            have hz6 : w6.heap.size ≤ (w14.alloc (.cells #[.string ⟨#[111, 110, 101]⟩, .string ⟨#[111, 110, 101]⟩] 9)).heap.size := Nat.le_trans HZ68.out (Nat.le_trans hF14.z hbI.size)
            have hT1 : OwnT (w14.alloc (.cells #[.string ⟨#[111, 110, 101]⟩, .string ⟨#[111, 110, 101]⟩] 9)) w6.heap.size (.slice As SA.length cas) s := World.ownsRow.alloc hT14 _
            have HX := hide (And.intro hT1 (And.intro (hF14.call hbI) (And.intro hz6 (lit2T w14 ⟨#[111, 110, 101]⟩ ⟨#[111, 110, 101]⟩))))
            clear HG1 hF14 hT14 hle hbI hz6 hT1 a1
            go_upto_region 23 with (at_builtin; go_must (refine wpList_appT27 _ rfl _ _ rfl (unhide HX).1 rfl (unhide HX).2.2.2 rfl hlb.out.2 (unhide HX).2.2.1 ?_); intro v2 w15 hO2 hg2 hat2; obtain ⟨A2, c2, rfl, -⟩ := id (ownT_strs hO2); have HG2 := hide (And.intro hO2 hg2); clear hO2 hg2 hat2)
            have hF15 := (unhide HX).2.1.grown (unhide HG2).2 (unhide HX).1 (Nat.le_of_lt HLO.out) (by decide) (unhide HLT).2
            have hle : s.length + 2 = SA.length + 2 := by rw [hsl.out]
            rw [hle]
            have HF := hide hF15
            clear HX HG2 hF15 hle a2
            go_wp2_with fail
            refine ((unhide HFT) _).mono ?_
            rintro e16 w16 ⟨hT16, hb16⟩
            obtain ⟨vnD, vsD, rfl, hnD, hsD⟩ := col_form hT16
            rw [hRA.out] at hnD hsD ⊢
            rw [heA.out]
            simp only at hnD hsD ⊢
            obtain ⟨Dn, cdn, rfl, -⟩ := id hnD.ints
            obtain ⟨Ds, cds, rfl, -⟩ := id (ownT_strs hsD)
            have hb17 : Below w15.heap.size w15 (w16.alloc (.cells #[.string cA, .slice Dn NA.length cdn, .slice Ds SA.length cds] 25)) := hb16.alloc hb16.size _
            have hF17 := (unhide HF).call hb17
            have hD := Blk.new w16 25 #[.string cA, .slice Dn NA.length cdn, .slice Ds SA.length cds]
            have hnD7 : OwnI (w16.alloc (.cells #[.string cA, .slice Dn NA.length cdn, .slice Ds SA.length cds] 25)) w15.heap.size (.slice Dn NA.length cdn) NA := World.ownsRow.alloc hnD _
            have hsD7 : OwnT (w16.alloc (.cells #[.string cA, .slice Dn NA.length cdn, .slice Ds SA.length cds] 25)) w15.heap.size (.slice Ds SA.length cds) SA := World.ownsRow.alloc hsD _
            have hcall := sameCall27_eq cA _ _ _ _ NA SA (w16.alloc (.cells #[.string cA, .slice Dn NA.length cdn, .slice Ds SA.length cds] 25)) (by omega) (by omega) hnD7.ints (OwnI.ints hF17.n) (ownT_strs hsD7) (ownT_strs hF17.s)
            have y0 := hF17.r.cell 0; have y1 := hF17.r.cell 1; have y2 := hF17.r.cell 2
            simp only [List.getElem?_toArray, List.getElem?_cons_zero, List.getElem?_cons_succ] at y0 y1 y2
            have HC := hide hcall; have HF17 := hide hF17
            clear hb17 hF17 hD hnD7 hsD7 hcall hb16 hnD hsD hT16 HF HFT
            go_wp2_with fail
            refine (unhide HC).mono ?_
            rintro e18 w18 ⟨rfl, hb18⟩
            have hF18 := (unhide HF17).call hb18
            have htd := asked27_any line w18 hl
            have HF18 := hide hF18; have HTD := hide htd
            clear hF18 htd hb18 HC HF17 y0 y1 y2
            go_wp2_with fail
            refine (unhide HTD).mono ?_
            rintro e19 w19 ⟨rfl, hb19⟩
            have hF19 := (unhide HF18).call hb19
            have y1 := hF19.r.cell 1; have y2 := hF19.r.cell 2
            simp only [List.getElem?_toArray, List.getElem?_cons_zero, List.getElem?_cons_succ] at y1 y2
            have HF19 := hide hF19
            clear hF19 hb19 HTD HF18
            go_wp2_with fail
            go_ret
            exact ⟨rfl, (unhide HF19).b⟩
set_option maxRecDepth 100000 in
theorem frontAsk_walk {H : Type} {enc : TypeId × Value → H} (W : World) (base : Nat) (v0 : Value) (d0 : DataW H) (p0 : List MemPlace) (v1 : Value) (d1 : DataW H) (p1 : List MemPlace) (o0 : Value.okWide Tryz.prog W .any base 25 v0) (h0 : DataW.Trod enc Tryz.prog W 0 (fun _ => true) true 25 v0 d0 p0) (l0 : ∀ x ∈ p0, x.block < W.heap.size) (o1 : Value.okWide Tryz.prog W .any base 9 v1) (h1 : DataW.Trod enc Tryz.prog W 0 (fun _ => true) true 9 v1 d1 p1) (l1 : ∀ x ∈ p1, x.block < W.heap.size) (hz : (DataW.weightsEach Tryz.prog [25, 9] ([d0, d1] : List (DataW H))).all (· ≤ reachBytes) = true) (hk : Rows.uptoBulkAll ([d0, d1] : List (DataW H)) ≤ 1048576) (hL : laidMetH Tryz.prog Rows.frontAskUptoRow.laid W) (hsh : W.ShapedOpen Tryz.prog) :
    Calls Tryz.prog 3 #[v0, v1] W fun e W' => e = .returned (.bool true) ∧ Below W.heap.size W W' := by
  obtain ⟨c, vn, vs, N, S, rfl, hN, hS, hi, hb⟩ := open_call o0 h0
  obtain ⟨s, rfl, rfl, -⟩ := Go.ChangeMaps.open_string Tryz.underlying9 o1 h1
  simp only [Rows.uptoBulkAll, Rows.uptoBulk, Array.length_toList] at hk
  have hsz : s.data.size = s.size := rfl
  exact lawFrontAsk_any c N S vn vs s W hi hN hS (by omega) (by omega)
end Go.Proofs.YtnkioabdpploeaaGreatDoor

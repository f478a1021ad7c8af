/-
  CONTRACT of the law's asked.
-/
import Derived.Test.YtnkioabdpploeaaGreatDoorRows
import Derived.Deep.CutRange
import Derived.Deep.CutBlock
import Derived.Test.YtnkioabdpploeaaGreatDoorGBase
import Derived.Test.YtnkioabdpploeaaGreatDoorGTld
import Derived.Test.YtnkioabdpploeaaGreatDoorSFAsked
import Derived.Test.YtnkioabdpploeaaGreatDoorSRAsC
import Derived.Test.YtnkioabdpploeaaGreatDoorSSameC
import Derived.Test.YtnkioabdpploeaaGreatDoorSCallW
import Derived.Test.YtnkioabdpploeaaGreatDoorSSameT
import Derived.Test.YtnkioabdpploeaaGreatDoorSApart
import Derived.Test.YtnkioabdpploeaaGreatDoorSApartI
set_option linter.unusedVariables false
set_option linter.unusedSimpArgs false
namespace Go.Proofs.YtnkioabdpploeaaGreatDoor
open Go.RowKit Go.Lib
def otherC : CaR := ⟨⟨#[101, 110, 116, 114, 105, 101, 115]⟩, [1, 2], [⟨#[120]⟩, ⟨#[121]⟩]⟩
theorem otherC_ok : CcOk otherC := by
  refine ⟨fun z hz => ?_, fun x hx => ?_⟩
  · unfold otherC at hz; simp at hz; rcases hz with rfl | rfl <;> exact ⟨by decide, by decide⟩
  · unfold otherC at hx; simp at hx; rcases hx with rfl | rfl <;> decide
theorem otherC_no : ¬ CaOk otherC := by
  unfold CaOk otherC
  rw [show shapeS _ = some (2, 0) from rfl]
  decide
set_option maxRecDepth 100000 in
set_option maxHeartbeats 4000000 in
theorem asked27_any (line : ByteArray) (w : World) (hl : line.size ≤ 1048577) :
    Calls Tryz.prog 15 #[.string line] w fun e w' => e = .returned (.bool true) ∧ Below w.heap.size w w' := by
  have hOI : OwnI (w.alloc (.cells #[.int .i64 1, .int .i64 2] 3)) w.heap.size (.slice (some ⟨w.heap.size, 0, none⟩) 2 2) [1, 2] := World.ownsRow_lit w #[.int .i64 1, .int .i64 2] 2 (Nat.le_refl _) (by simp [maxLen]) rfl
  have hOS : OwnT ((w.alloc (.cells #[.int .i64 1, .int .i64 2] 3)).alloc (.cells #[.string ⟨#[120]⟩, .string ⟨#[121]⟩] 9)) w.heap.size (.slice (some ⟨(w.alloc (.cells #[.int .i64 1, .int .i64 2] 3)).heap.size, 0, none⟩) 2 2) [⟨#[120]⟩, ⟨#[121]⟩] := World.ownsRow_lit _ #[.string ⟨#[120]⟩, .string ⟨#[121]⟩] 2 (by simp) (by simp [maxLen]) rfl
  rw [World.size_alloc] at hOS
  have hOI2 := World.ownsRow.alloc hOI (.cells #[.string ⟨#[120]⟩, .string ⟨#[121]⟩] 9)
  have hb0 : Below w.heap.size w ((w.alloc (.cells #[.int .i64 1, .int .i64 2] 3)).alloc (.cells #[.string ⟨#[120]⟩, .string ⟨#[121]⟩] 9)) := ((Below.refl _ _).alloc (Nat.le_refl _) _).alloc (by simp) _
  have ht := rcall_any otherC _ _ ((w.alloc (.cells #[.int .i64 1, .int .i64 2] 3)).alloc (.cells #[.string ⟨#[120]⟩, .string ⟨#[121]⟩] 9)) (OwnI.ints hOI2) (ownT_strs hOS) otherC_ok (by decide) (by decide)
  rw [fcallV_no otherC_no] at ht
  obtain ⟨O, hO⟩ : ∃ O : ByteArray, Hid (⟨#[]⟩ = O) := ⟨_, Lib.hid rfl⟩
  have hOz : O.size ≤ 1048577 := by rw [← hO.out]; decide
  rw [hO.out] at ht
  have HT := hide ht; have HB := hide hb0
  clear ht hb0 hOI hOS hOI2
  go_enter Tryz.func15, Tryz.ntmps15
  go_wp2_with fail
  refine (unhide HT).mono ?_
  rintro e1 w1 ⟨rfl, hb1⟩
  have H1 := hide ((unhide HB).trans (hb1.mono (unhide HB).size))
  have hc1 := fun W => rasked27_any line W (by omega)
  have hc2 := fun W => rasked27_any O W (by omega)
  have HC1 := hide hc1; have HC2 := hide hc2
  clear hb1 HT HB hc1 hc2
  go_wp2_with fail
  refine (unhide HC1 _).mono ?_
  rintro e2 w2 ⟨hT2, hb2⟩
  obtain ⟨vn2, vs2, rfl, hn2, hs2⟩ := col_form hT2
  obtain ⟨An2, cn2, rfl, -⟩ := id hn2.ints
  obtain ⟨As2, cs2, rfl, -⟩ := id (ownT_strs hs2)
  have H2 := hide (And.intro ((unhide H1).trans (hb2.mono (unhide H1).size)) (And.intro hn2 hs2))
  clear hT2 hb2 hn2 hs2 H1 HC1
  go_wp2_with fail
  refine (unhide HC2 _).mono ?_
  rintro e3 w3 ⟨hT3, hb3⟩
  obtain ⟨vn3, vs3, rfl, hn3, hs3⟩ := col_form hT3
  obtain ⟨An3, cn3, rfl, -⟩ := id hn3.ints
  obtain ⟨As3, cs3, rfl, -⟩ := id (ownT_strs hs3)
  have hlB := resC_len line; have hlC := resC_len O
  obtain ⟨eB, heB⟩ : ∃ e, Hid (resCE line = e) := ⟨_, Lib.hid rfl⟩
  obtain ⟨eC, heC⟩ : ∃ e, Hid (resCE O = e) := ⟨_, Lib.hid rfl⟩
  obtain ⟨RB, hRB⟩ : ∃ R, Hid (resC line = R) := ⟨_, Lib.hid rfl⟩
  obtain ⟨RC, hRC⟩ : ∃ R, Hid (resC O = R) := ⟨_, Lib.hid rfl⟩
  rw [hRB.out] at H2 hlB hb3
  rw [hRC.out] at hn3 hs3 hlC
  rw [heB.out, hRB.out]
  rw [heC.out, hRC.out]
  obtain ⟨cB, NB, SB⟩ := RB
  obtain ⟨cC, NC, SC⟩ := RC
  simp only at H2 hlB hn3 hs3 hlC hb3 ⊢
  have hb23 : Below w2.heap.size w2 w3 := (((Below.refl w2.heap.size w2).alloc (Nat.le_refl _) _).trans (hb3.mono (by simp)))
  have hbx : Below w2.heap.size w2 (w3.alloc (.cells #[.string cC, .slice An3 NC.length cn3, .slice As3 SC.length cs3] 25)) := hb23.alloc hb23.size _
  have hB2 := ((Blk.new w2 25 #[.string cB, .slice An2 NB.length cn2, .slice As2 SB.length cs2]).below hb3 (by simp)).alloc (.cells #[.string cC, .slice An3 NC.length cn3, .slice As3 SC.length cs3] 25)
  have hB3 := Blk.new w3 25 #[.string cC, .slice An3 NC.length cn3, .slice As3 SC.length cs3]
  have hiB : IntsAt (w3.alloc (.cells #[.string cC, .slice An3 NC.length cn3, .slice As3 SC.length cs3] 25)) (.slice An2 NB.length cn2) NB := (OwnI.ints (unhide H2).2.1).below hbx
  have hsB : StrsAt (w3.alloc (.cells #[.string cC, .slice An3 NC.length cn3, .slice As3 SC.length cs3] 25)) (.slice As2 SB.length cs2) SB := (ownT_strs (unhide H2).2.2).below hbx
  have hb33 : Below w3.heap.size w3 (w3.alloc (.cells #[.string cC, .slice An3 NC.length cn3, .slice As3 SC.length cs3] 25)) := (Below.refl _ _).alloc (Nat.le_refl _) _
  have hiC : IntsAt (w3.alloc (.cells #[.string cC, .slice An3 NC.length cn3, .slice As3 SC.length cs3] 25)) (.slice An3 NC.length cn3) NC := hn3.ints.below hb33
  have hsC : StrsAt (w3.alloc (.cells #[.string cC, .slice An3 NC.length cn3, .slice As3 SC.length cs3] 25)) (.slice As3 SC.length cs3) SC := (ownT_strs hs3).below hb33
  have hbw := (unhide H2).1.trans (hbx.mono (unhide H2).1.size)
  have hlt2 : w2.heap.size < (w3.alloc (.cells #[.string cC, .slice An3 NC.length cn3, .slice As3 SC.length cs3] 25)).heap.size := hB2.lt
  have hlt3 : w3.heap.size < (w3.alloc (.cells #[.string cC, .slice An3 NC.length cn3, .slice As3 SC.length cs3] 25)).heap.size := hB3.lt
  have H5 := hide (And.intro hB2 (And.intro hB3 (And.intro hiB (And.intro hsB (And.intro hiC (And.intro hsC (And.intro hbw (And.intro hlt2 hlt3))))))))
  clear hb23 hbx hB2 hB3 hiB hsB hb33 hiC hsC hbw hlt2 hlt3 hb3 hT3 hn3 hs3 H2 HC2
  go_wp2_with fail
  generalize (w3.alloc (.cells #[.string cC, .slice An3 NC.length cn3, .slice As3 SC.length cs3] 25)) = w5 at *
  generalize w2.heap.size = gB at *
  generalize w3.heap.size = gC at *
  obtain ⟨mN, hmN⟩ : ∃ mN : Nat → Nat, Hid ((fun q => if q = 2 ∨ q = 3 then NC.length else NB.length) = mN) := ⟨_, Lib.hid rfl⟩
  obtain ⟨mS, hmS⟩ : ∃ mS : Nat → Nat, Hid ((fun q => if q = 2 ∨ q = 3 then SC.length else SB.length) = mS) := ⟨_, Lib.hid rfl⟩
  go_loopw [9, 10, 11, 12, 13, 14, 15, 16, 17] (fun vns vss i _ _ _ _ _ _ W => ∃ (k : Nat) (lsN lsS : List Value), i = .int .i64 (k : Int) ∧ k ≤ 5 ∧ Below w5.heap.size w5 W ∧ Rs w5.heap.size W 3 22 k vns lsN mN ∧ Rs w5.heap.size W 9 23 k vss lsS mS) (fun _ _ i _ _ _ _ _ _ _ => 5 - (RowKit.intOf i).toNat)
  case atStart => exact ⟨0, [], [], rfl, by omega, Below.refl _ _, Rs.nil _ _ _ _ _, Rs.nil _ _ _ _ _⟩
  case round =>
    obtain ⟨k, lsN, lsS, rfl, hk, hb, hN, hS⟩ := hrel
    have t0 : (0 : Int) ≤ (k : Int) := by omega
    rcases Nat.lt_or_ge k 5 with hlt | hge
    · have t1 : (k : Int) < 5 := by omega
      have hB := (unhide H5).1.below hb (unhide H5).2.2.2.2.2.2.2.1
      have hC := (unhide H5).2.1.below hb (unhide H5).2.2.2.2.2.2.2.2
      have b0 := hB.cell 0; have b1 := hB.cell 1; have b2 := hB.cell 2
      simp only [List.getElem?_toArray, List.getElem?_cons_zero, List.getElem?_cons_succ] at b0 b1 b2
      have hC2 := hC.alloc (.cells #[.string cB, .slice An2 NB.length cn2, .slice As2 SB.length cs2] 25)
      have c0 := hC2.cell 0; have c1 := hC2.cell 1; have c2 := hC2.cell 2
      simp only [List.getElem?_toArray, List.getElem?_cons_zero, List.getElem?_cons_succ] at c0 c1 c2
      have hW := Blk.new wr 25 #[.string cB, .slice An2 NB.length cn2, .slice As2 SB.length cs2]
      have d0 := hW.cell 0; have d1 := hW.cell 1; have d2 := hW.cell 2
      have f0 := hW.frozen 0; have f1 := hW.frozen 1; have f2 := hW.frozen 2
      simp only [List.getElem?_toArray, List.getElem?_cons_zero, List.getElem?_cons_succ] at d0 d1 d2
      have HX := hide (And.intro hb (And.intro hN (And.intro hS hW)))
      clear hb hN hS hB hC hC2 hW
      go_upto_region 12 with fail
      obtain ⟨wv, hwv⟩ : ∃ wv : World, wv = wr.alloc (.cells #[.string cB, .slice An2 NB.length cn2, .slice As2 SB.length cs2] 25) := ⟨_, rfl⟩
      obtain ⟨bq, hbq⟩ : ∃ bq : Bool, Hid (decide (k = 2 ∨ k = 3) = bq) := ⟨_, Lib.hid rfl⟩
      go_cut [47] from 35 to 75 (fun s47 wx => s47 = .bool bq ∧ wx = wv)
      case first =>
        by_cases h2 : k = 2
        · have y1 : ((k : Int) == 2) = true := by rw [beq_iff_eq]; omega
          have y2 : (k : Int) = 2 := by omega
          have e : bq = true := by rw [← hbq.out]; simp [h2]
          clear h2
          go_wp2_with fail
          go_meet
          case rel => exact ⟨by rw [e], hwv.symm⟩
        · have y1 : ((k : Int) == 2) = false := by rw [beq_eq_false_iff_ne]; omega
          have y2 : ¬ (k : Int) = 2 := by omega
          by_cases h3 : k = 3
          · have y3 : ((k : Int) == 3) = true := by rw [beq_iff_eq]; omega
            have y4 : (k : Int) = 3 := by omega
            have e : bq = true := by rw [← hbq.out]; simp [h3]
            clear h2 h3
            go_wp2_with fail
            go_meet
            case rel => exact ⟨by rw [e], hwv.symm⟩
          · have y3 : ((k : Int) == 3) = false := by rw [beq_eq_false_iff_ne]; omega
            have y4 : ¬ (k : Int) = 3 := by omega
            have e : bq = false := by rw [← hbq.out]; simp [h2, h3]
            clear h2 h3
            go_wp2_with fail
            go_meet
            case rel => exact ⟨by rw [e], hwv.symm⟩
      case rest =>
        obtain ⟨rfl, hw3⟩ := hcut
        rw [hwv] at hw3
        subst hw3
        clear hwv
        go_upto_if 47 with fail
        go_cut [12, 14] from 35 to 75 (fun s12 s14 wx => ∃ (sT : ByteArray) (eT : Int) (cT : ByteArray) (NT : List Int) (ST : List ByteArray) (A1 A2 : Option Addr) (q1 q2 : Nat), s12 = .string sT ∧ s14 = .int .i64 eT ∧ Hid (resC sT = ⟨cT, NT, ST⟩ ∧ resCE sT = eT ∧ sT.size ≤ 1048577) ∧ Hid (NT.length = mN k ∧ ST.length = mS k) ∧ Hid (IntsAt w5 (.slice A1 NT.length q1) NT ∧ StrsAt w5 (.slice A2 ST.length q2) ST) ∧ Hid (Blk wx wr.heap.size 25 #[.string cT, .slice A1 NT.length q1, .slice A2 ST.length q2] ∧ Below wr.heap.size wr wx))
        case first =>
          cases hbv : bq with
          | true =>
            have hk23 : k = 2 ∨ k = 3 := by have h := hbq.out; rw [hbv] at h; simpa using h
            have hml : Hid (NC.length = mN k ∧ SC.length = mS k) := Lib.hid ⟨by rw [← hmN.out]; simp [hk23], by rw [← hmS.out]; simp [hk23]⟩
            clear hk23 hbv
            go_wp2_with fail
            go_meet
            case rel => exact ⟨O, eC, cC, NC, SC, An3, As3, cn3, cs3, rfl, rfl, Lib.hid ⟨hRC.out, heC.out, hOz⟩, hml, Lib.hid ⟨(unhide H5).2.2.2.2.1, (unhide H5).2.2.2.2.2.1⟩, Lib.hid ⟨Blk.new _ _ _, (Below.refl _ _).alloc (Nat.le_refl _) _⟩⟩
          | false =>
            have hk23 : ¬ (k = 2 ∨ k = 3) := by have h := hbq.out; rw [hbv] at h; simpa using h
            have hml : Hid (NB.length = mN k ∧ SB.length = mS k) := Lib.hid ⟨by rw [← hmN.out]; simp [hk23], by rw [← hmS.out]; simp [hk23]⟩
            clear hk23 hbv
            go_wp2_with fail
            go_meet
            case rel => exact ⟨line, eB, cB, NB, SB, An2, As2, cn2, cs2, rfl, rfl, Lib.hid ⟨hRB.out, heB.out, hl⟩, hml, Lib.hid ⟨(unhide H5).2.2.1, (unhide H5).2.2.2.1⟩, Lib.hid ⟨(unhide HX).2.2.2, (Below.refl _ _).alloc (Nat.le_refl _) _⟩⟩
        case rest =>
          obtain ⟨sT, eT, cT, NT, ST, A1, A2, q1, q2, rfl, rfl, hsT, hml, hat, hwx⟩ := hcut
          clear b0 b1 b2 c0 c1 c2 d0 d1 d2 f0 f1 f2
          have hN1 := (unhide HX).2.1.call hwx.out.2
          have hS1 := (unhide HX).2.2.1.call hwx.out.2
          have hb1 := (unhide HX).1.trans (hwx.out.2.mono (unhide HX).1.size)
          have hft := fasked_any sT wc (by have := hsT.out.2.2; omega)
          have HF := hide hft; have HX1 := hide (And.intro hN1 (And.intro hS1 (And.intro hb1 hwx.out.1)))
          clear hN1 hS1 hb1 hft HX hwx
          go_wp2_with fail
          refine (unhide HF).mono ?_
          rintro e2 w7 ⟨hT7, hb7⟩
          obtain ⟨vn7, vs7, rfl, hn7, hs7⟩ := col_form hT7
          rw [hsT.out.1] at hn7 hs7 ⊢
          rw [hsT.out.2.1]
          simp only at hn7 hs7 ⊢
          obtain ⟨An7, cn7, rfl, -⟩ := id hn7.ints
          obtain ⟨As7, cs7, rfl, -⟩ := id (ownT_strs hs7)
          have hfN := (unhide HX1).1.far hn7
          have hfS := (unhide HX1).2.1.far hs7
          have hb8 : Below wc.heap.size wc (w7.alloc (.cells #[.string cT, .slice An7 NT.length cn7, .slice As7 ST.length cs7] 25)) := hb7.alloc hb7.size _
          have hN8 := (unhide HX1).1.call hb8
          have hS8 := (unhide HX1).2.1.call hb8
          have hB8 := (unhide HX1).2.2.1.trans (hb8.mono (unhide HX1).2.2.1.size)
          have hW8 := (unhide HX1).2.2.2.below hb8 (unhide HX1).2.2.2.lt
          have hA8 := Blk.new w7 25 #[.string cT, .slice An7 NT.length cn7, .slice As7 ST.length cs7]
          have hwc5 : w5.heap.size ≤ wc.heap.size := (unhide HX1).2.2.1.size
          have hn8 : OwnI (w7.alloc (.cells #[.string cT, .slice An7 NT.length cn7, .slice As7 ST.length cs7] 25)) w5.heap.size (.slice An7 NT.length cn7) NT := World.ownsRow.alloc (row_mono hn7 hwc5) _
          have hs8 : OwnT (w7.alloc (.cells #[.string cT, .slice An7 NT.length cn7, .slice As7 ST.length cs7] 25)) w5.heap.size (.slice As7 ST.length cs7) ST := World.ownsRow.alloc (row_mono hs7 hwc5) _
          have hlNT : NT.length ≤ 562949953421312 := by have := resC_len sT; rw [hsT.out.1] at this; simp only at this; omega
          have hlST : ST.length ≤ 562949953421312 := by have := resC_len sT; rw [hsT.out.1] at this; simp only at this; omega
          have hcall := sameCall27_eq cT _ _ _ _ NT ST (w7.alloc (.cells #[.string cT, .slice An7 NT.length cn7, .slice As7 ST.length cs7] 25)) hlNT hlST (OwnI.ints hn8) (hat.out.1.below hB8) (ownT_strs hs8) (hat.out.2.below hB8)
          have e0 := hW8.cell 0; have e1 := hW8.cell 1; have e2 := hW8.cell 2
          simp only [List.getElem?_toArray, List.getElem?_cons_zero, List.getElem?_cons_succ] at e0 e1 e2
          have HC := hide hcall; have H8 := hide (And.intro hN8 (And.intro hS8 (And.intro hB8 (And.intro hA8 (And.intro hn8 hs8))))); have HFN := hide hfN; have HFS := hide hfS
          have hlt8 : w7.heap.size < (w7.alloc (.cells #[.string cT, .slice An7 NT.length cn7, .slice As7 ST.length cs7] 25)).heap.size := hA8.lt
          have HLT := Lib.hid hlt8
          clear hcall hN8 hS8 hB8 hW8 hA8 hn8 hs8 hfN hfS hlt8 hb8 hb7 hn7 hs7 hT7 HF HX1 hwc5
          go_wp2_with fail
          refine (unhide HC).mono ?_
          rintro e9 w9 ⟨rfl, hb9⟩
          have hN9 := (unhide H8).1.call hb9
          have hS9 := (unhide H8).2.1.call hb9
          have hB9 := (unhide H8).2.2.1.trans (hb9.mono (unhide H8).2.2.1.size)
          have hA9 := (unhide H8).2.2.2.1.below hb9 HLT.out
          have hn9 : OwnI w9 w5.heap.size (.slice An7 NT.length cn7) NT := row_low (unhide H8).2.2.2.2.1 (fun k hk => (World.ownsRow.lt (unhide H8).2.2.2.2.1 k hk).2) hb9
          have hs9 : OwnT w9 w5.heap.size (.slice As7 ST.length cs7) ST := row_low (unhide H8).2.2.2.2.2 (fun k hk => (World.ownsRow.lt (unhide H8).2.2.2.2.2 k hk).2) hb9
          have a1 := hA9.cell 1
          simp only [List.getElem?_toArray, List.getElem?_cons_zero, List.getElem?_cons_succ] at a1
          clear hb9 H8 HC HLT e0 e1 e2
          generalize w7.heap.size = gA at *
          have hbA : Below w9.heap.size w9 (w9.alloc (.cells #[.slice An7 NT.length cn7] 22)) := (Below.refl _ _).alloc (Nat.le_refl _) _
          have hB10 := hB9.trans (hbA.mono hB9.size)
          have H10 := hide (And.intro (hN9.call hbA) (And.intro (hS9.call hbA) (And.intro hB10 (And.intro (hA9.below hbA hA9.lt) (And.intro (World.ownsRow.alloc hn9 (.cells #[.slice An7 NT.length cn7] 22)) (World.ownsRow.alloc hs9 (.cells #[.slice An7 NT.length cn7] 22)))))))
          have hcu : Hid ((w9.alloc (.cells #[.slice An7 NT.length cn7] 22)).cell? ⟨w9.heap.size, 0, none⟩ = some (.slice An7 NT.length cn7)) := Lib.hid ((Blk.new w9 22 #[.slice An7 NT.length cn7]).cell 0)
          have hkn : k + 1 ≤ 1099511627776 := by omega
          clear hbA hB10 hN9 hS9 hB9 hA9 hn9 hs9
          go_upto_region 21 with (at_builtin; go_must (refine wpList_apIS _ rfl _ _ rfl (unhide H10).1.o rfl hcu.out rfl rfl hkn ?_); intro v11 w11 hG; have HG := hide hG; clear hG)
          have hrow := (unhide H10).1.o
          have hN11 := (unhide H10).1.push (unhide HG) (by decide) (Nat.le_trans (unhide H10).2.2.1.size (Nat.le_refl _)) (by rw [← hml.out.1]; exact (unhide H10).2.2.2.2.1) (unhide HFN)
          have hS11 := (unhide H10).2.1.other (unhide HG) hrow (by decide) (by decide)
          have hB11 := grew_below (unhide HG) hrow (unhide H10).2.2.1 (Nat.le_refl _) (unhide H10).2.2.1.size
          have hA11 := grew_blk (unhide HG) hrow (by decide) (unhide H10).2.2.2.1
          have hs11 := grew_row (unhide HG) hrow (by decide) (unhide H10).2.2.2.2.2
          have a2 := hA11.cell 2
          simp only [List.getElem?_toArray, List.getElem?_cons_zero, List.getElem?_cons_succ] at a2
          have hbA : Below w11.heap.size w11 (w11.alloc (.cells #[.slice As7 ST.length cs7] 23)) := (Below.refl _ _).alloc (Nat.le_refl _) _
          have hB12 := hB11.trans (hbA.mono hB11.size)
          have H12 := hide (And.intro (hN11.call hbA) (And.intro (hS11.call hbA) (And.intro hB12 (World.ownsRow.alloc hs11 (.cells #[.slice As7 ST.length cs7] 23)))))
          have hcv : Hid ((w11.alloc (.cells #[.slice As7 ST.length cs7] 23)).cell? ⟨w11.heap.size, 0, none⟩ = some (.slice As7 ST.length cs7)) := Lib.hid ((Blk.new w11 23 #[.slice As7 ST.length cs7]).cell 0)
          clear hrow hN11 hS11 hB11 hA11 hs11 hbA hB12 H10 HG hcu a1
          go_wp2_with (at_builtin; go_must (refine wpList_apTS _ rfl _ _ rfl (unhide H12).2.1.o rfl hcv.out rfl rfl hkn ?_); intro v13 w13 hG; have HG := hide hG; clear hG)
          have hrow := (unhide H12).2.1.o
          have hS13 := (unhide H12).2.1.push (unhide HG) (by decide) (unhide H12).2.2.1.size (by rw [← hml.out.2]; exact (unhide H12).2.2.2) (unhide HFS)
          have hN13 := (unhide H12).1.other (unhide HG) hrow (by decide) (by decide)
          have hB13 := grew_below (unhide HG) hrow (unhide H12).2.2.1 (Nat.le_refl _) (unhide H12).2.2.1.size
          exact ⟨⟨k + 1, _, _, by go_num, by omega, hB13, hN13, hS13⟩, by simp [RowKit.intOf]; omega⟩
    · have t1 : ¬ (k : Int) < 5 := by omega
      obtain rfl : k = 5 := by omega
      have hmS5 : ∀ q, q < 5 → mS q ≤ 1099511627776 := fun q _ => by
        rw [← hmS.out]
        simp only
        split <;> omega
      have hmN5 : ∀ q, q < 5 → mN q ≤ 1099511627776 := fun q _ => by
        rw [← hmN.out]
        simp only
        split <;> omega
      have hap := apart_any _ _ _ _ _ _ wr (by omega) hmS5 hS.o (hS.ap1 hb.size mkQ)
      have hapi := fun W (hk : KeepT 9 w5.heap.size wr W) => apartInts_any _ _ _ _ _ _ W (by omega) hmN5 (hN.keep hk (by decide) (by decide)).o ((hN.keep hk (by decide) (by decide)).ap1 (Nat.le_trans hb.size hk.b.size) mkN)
      have HA := hide hap; have HI := hide hapi; have HB := hide hb
      clear hap hapi hb hN hS
      go_wp2_with fail
      refine (unhide HA).mono ?_
      rintro e2 w7 ⟨rfl, hk7⟩
      have HI2 := hide (unhide HI _ hk7)
      have hb7 := hk7.b
      have HB7 := hide ((unhide HB).trans hb7)
      clear HA HI HB hk7 hb7
      go_wp2_with fail
      refine (unhide HI2).mono ?_
      rintro e3 w8 ⟨rfl, hk8⟩
      have hb8 := (unhide HB7).trans hk8.b
      have hbw := (unhide H5).2.2.2.2.2.2.1
      have HE := hide (hbw.trans (hb8.mono hbw.size))
      clear HI2 HB7 hk8 hb8 hbw
      go_wp2_with fail
      go_ret
      exact ⟨rfl, unhide HE⟩
end Go.Proofs.YtnkioabdpploeaaGreatDoor

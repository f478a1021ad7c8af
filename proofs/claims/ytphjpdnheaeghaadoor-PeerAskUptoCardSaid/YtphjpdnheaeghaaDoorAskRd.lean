/-
  CONTRACT of the law's read.
-/
import Derived.Test.YtphjpdnheaeghaaDoorRows
import Derived.Test.YtphjpdnheaeghaaDoorWd
import Derived.Test.YtphjpdnheaeghaaDoorPAsked
import Derived.Test.YtphjpdnheaeghaaDoorRAsked
import Derived.Test.YtphjpdnheaeghaaDoorSameQ
import Derived.Test.YtphjpdnheaeghaaDoorGathQ
import Derived.Test.YtphjpdnheaeghaaDoorApartQ
import Derived.Deep.CutRange
import Derived.Deep.CutBlock
set_option linter.unusedVariables false
set_option linter.unusedSimpArgs false
namespace Go.Proofs.YtphjpdnheaeghaaDoor
open Go.RowKit Go.Lib
abbrev hOne : ByteArray := ⟨#[48, 49, 50, 51, 52, 53, 54, 55, 56, 57, 97, 98, 99, 100, 101, 102]⟩
abbrev hTwo : ByteArray := ⟨#[102, 101, 100, 99, 98, 97, 57, 56, 55, 54, 53, 52, 51, 50, 49, 48]⟩
def otherQ : RqR := ⟨1, [hOne, hTwo], ⟨#[110, 10]⟩⟩
theorem otherQ_ok : AskOk otherQ ∧ (askB otherQ).size ≤ 1048577 := by
  have hk : AskOk otherQ := by
    refine ⟨by decide, by decide, by decide, fun h hh => ?_⟩
    unfold otherQ at hh; simp at hh
    rcases hh with rfl | rfl <;> decide
  refine ⟨hk, ?_⟩
  have h := askB_size otherQ (fun x hx => (hk.2.2.2 x hx).2)
  have l1 : otherQ.pf.length = 2 := rfl
  have l2 : otherQ.nt.size = 2 := rfl
  have l3 : (decS otherQ.old).size ≤ 20 := dec_size20 (by decide) (by decide)
  omega
/-- What a text is read as, wherever. -/
def UnifQ (b : ByteArray) (r : RqR) (z : Int) : Prop := ∀ (w' : World) (base : Nat) (e : Ending), AskedR w' base b e → ∃ A c, e = .returned (.tuple #[.agg #[.int .i64 r.old, .slice A r.pf.length c, .string r.nt], .int .i64 z]) ∧ OwnT w' base (.slice A r.pf.length c) r.pf
set_option maxRecDepth 100000 in
set_option maxHeartbeats 4000000 in
theorem read_any (line : ByteArray) (w : World) (hl : line.size ≤ 1048577) (hM : MaxK w) :
    Calls Tryd.prog 10 #[.string line] w fun e w' => e = .returned (.bool true) ∧ Below w.heap.size w w' := by
  have hOS : OwnT (w.alloc (.cells #[.string hOne, .string hTwo] 9)) w.heap.size (.slice (some ⟨w.heap.size, 0, none⟩) 2 2) [hOne, hTwo] := World.ownsRow_lit _ #[.string hOne, .string hTwo] 2 (by simp) (by simp [maxLen]) rfl
  have hb0 : Below w.heap.size w (w.alloc (.cells #[.string hOne, .string hTwo] 9)) := (Below.refl _ _).alloc (Nat.le_refl _) _
  have ht := rpask_any otherQ _ (w.alloc (.cells #[.string hOne, .string hTwo] 9)) (ownT_strsQ hOS) ⟨by decide, by decide⟩ (by decide) (by decide)
  rw [askV_ok (askE_ok.2 otherQ_ok.1)] at ht
  obtain ⟨O, hO⟩ : ∃ O, Hid (askB otherQ = O) := ⟨_, Lib.hid rfl⟩
  have hOz : O.size ≤ 1048577 := by rw [← hO.out]; exact otherQ_ok.2
  rw [hO.out] at ht
  unfold otherQ at ht
  obtain ⟨RB, eB, hlB, hzB, -, huB⟩ := asked_unif line
  obtain ⟨RC, eC, hlC, hzC, -, huC⟩ := asked_unif O
  have HT := hide ht; have HB := hide hb0; have HUB : Hid (UnifQ line RB eB) := hide huB; have HUC : Hid (UnifQ O RC eC) := hide huC; have HM := hide hM
  clear ht hb0 hOS huB huC hM
  go_enter Tryd.func10, Tryd.ntmps10
  go_wp2_with fail
  refine (unhide HT).mono ?_
  rintro e1 w1 ⟨rfl, hb1⟩
  have H1 := hide ((unhide HB).trans (hb1.mono (unhide HB).size))
  have hc1 := fun W => rpasked_any line W (by omega)
  have hc2 := fun W => rpasked_any O W (by omega)
  have HC1 := hide hc1; have HC2 := hide hc2
  clear hb1 HT HB hc1 hc2
  go_wp2_with fail
  refine (unhide HC1 _).mono ?_
  rintro e2 w2 ⟨hT2, hb2⟩
  obtain ⟨As2, cs2, rfl, hs2⟩ := (unhide HUB) _ _ _ hT2
  have H2 := hide (And.intro ((unhide H1).trans (hb2.mono (unhide H1).size)) hs2)
  clear hT2 hb2 hs2 H1 HC1
  go_wp2_with fail
  refine (unhide HC2 _).mono ?_
  rintro e3 w3 ⟨hT3, hb3⟩
  obtain ⟨As3, cs3, rfl, hs3⟩ := (unhide HUC) _ _ _ hT3
  obtain ⟨cB, SB, nB⟩ := RB
  obtain ⟨cC, SC, nC⟩ := RC
  simp only at H2 hlB hs3 hlC hb3 ⊢
  have hb23 : Below w2.heap.size w2 w3 := (((Below.refl w2.heap.size w2).alloc (Nat.le_refl _) _).trans (hb3.mono (by simp)))
  have hbx : Below w2.heap.size w2 (w3.alloc (.cells #[.int .i64 cC, .slice As3 SC.length cs3, .string nC] 24)) := hb23.alloc hb23.size _
  have hB2 := ((Blk.new w2 24 #[.int .i64 cB, .slice As2 SB.length cs2, .string nB]).below hb3 (by simp)).alloc (.cells #[.int .i64 cC, .slice As3 SC.length cs3, .string nC] 24)
  have hB3 := Blk.new w3 24 #[.int .i64 cC, .slice As3 SC.length cs3, .string nC]
  have hsB : StrsAt (w3.alloc (.cells #[.int .i64 cC, .slice As3 SC.length cs3, .string nC] 24)) (.slice As2 SB.length cs2) SB := (ownT_strsQ (unhide H2).2).below hbx
  have hb33 : Below w3.heap.size w3 (w3.alloc (.cells #[.int .i64 cC, .slice As3 SC.length cs3, .string nC] 24)) := (Below.refl _ _).alloc (Nat.le_refl _) _
  have hsC : StrsAt (w3.alloc (.cells #[.int .i64 cC, .slice As3 SC.length cs3, .string nC] 24)) (.slice As3 SC.length cs3) SC := (ownT_strsQ hs3).below hb33
  have hbw := (unhide H2).1.trans (hbx.mono (unhide H2).1.size)
  have hlt2 : w2.heap.size < (w3.alloc (.cells #[.int .i64 cC, .slice As3 SC.length cs3, .string nC] 24)).heap.size := hB2.lt
  have hlt3 : w3.heap.size < (w3.alloc (.cells #[.int .i64 cC, .slice As3 SC.length cs3, .string nC] 24)).heap.size := hB3.lt
  have hM5 : MaxK (w3.alloc (.cells #[.int .i64 cC, .slice As3 SC.length cs3, .string nC] 24)) := (unhide HM).below hbw (unhide HM).lt
  have H5 := hide (And.intro hB2 (And.intro hB3 (And.intro hsB (And.intro hsC (And.intro hbw (And.intro hlt2 (And.intro hlt3 hM5)))))))
  clear hb23 hbx hB2 hB3 hsB hb33 hsC hbw hlt2 hlt3 hM5 hb3 hT3 hs3 H2 HC2
  go_wp2_with fail
  generalize (w3.alloc (.cells #[.int .i64 cC, .slice As3 SC.length cs3, .string nC] 24)) = w5 at *
  generalize w2.heap.size = gB at *
  generalize w3.heap.size = gC at *
  obtain ⟨mS, hmS⟩ : ∃ mS : Nat → Nat, Hid ((fun q => if q = 2 ∨ q = 3 then SC.length else SB.length) = mS) := ⟨_, Lib.hid rfl⟩
  go_loopw [9, 10, 11, 12, 13, 14, 15, 16] (fun vss i _ _ _ _ _ _ W => ∃ (k : Nat) (lsS : List Value), i = .int .i64 (k : Int) ∧ k ≤ 5 ∧ Below w5.heap.size w5 W ∧ Rs w5.heap.size W 9 22 k vss lsS mS) (fun _ i _ _ _ _ _ _ _ => 5 - (RowKit.intOf i).toNat)
  case atStart => exact ⟨0, [], rfl, by omega, Below.refl _ _, Rs.nil _ _ _ _ _⟩
  case round =>
    obtain ⟨k, lsS, rfl, hk, hb, hS⟩ := hrel
    have t0 : (0 : Int) ≤ (k : Int) := by omega
    rcases Nat.lt_or_ge k 5 with hlt | hge
    · have t1 : (k : Int) < 5 := by omega
      have hB := (unhide H5).1.below hb (unhide H5).2.2.2.2.2.1
      have hC := (unhide H5).2.1.below hb (unhide H5).2.2.2.2.2.2.1
      have b0 := hB.cell 0; have b1 := hB.cell 1; have b2 := hB.cell 2
      simp only [List.getElem?_toArray, List.getElem?_cons_zero, List.getElem?_cons_succ] at b0 b1 b2
      have hC2 := hC.alloc (.cells #[.int .i64 cB, .slice As2 SB.length cs2, .string nB] 24)
      have c0 := hC2.cell 0; have c1 := hC2.cell 1; have c2 := hC2.cell 2
      simp only [List.getElem?_toArray, List.getElem?_cons_zero, List.getElem?_cons_succ] at c0 c1 c2
      have hW := Blk.new wr 24 #[.int .i64 cB, .slice As2 SB.length cs2, .string nB]
      have d0 := hW.cell 0; have d1 := hW.cell 1; have d2 := hW.cell 2
      have f0 := hW.frozen 0; have f1 := hW.frozen 1; have f2 := hW.frozen 2
      simp only [List.getElem?_toArray, List.getElem?_cons_zero, List.getElem?_cons_succ] at d0 d1 d2
      have HX := hide (And.intro hb (And.intro hS hW))
      clear hb hS hB hC hC2 hW
      go_upto_region 11 with fail
      obtain ⟨wv, hwv⟩ : ∃ wv : World, wv = wr.alloc (.cells #[.int .i64 cB, .slice As2 SB.length cs2, .string nB] 24) := ⟨_, rfl⟩
      obtain ⟨bq, hbq⟩ : ∃ bq : Bool, Hid (decide (k = 2 ∨ k = 3) = bq) := ⟨_, Lib.hid rfl⟩
      go_cut [45] from 33 to 68 (fun s45 wx => s45 = .bool bq ∧ wx = wv)
      case first =>
        by_cases h2 : k = 2
        · have y1 : ((k : Int) == 2) = true := by rw [beq_iff_eq]; omega
          have y2 : (k : Int) = 2 := by omega
          have e : bq = true := by rw [← hbq.out]; simp [h2]
          clear h2
          go_wp2_with fail
          go_meet
          case rel => exact ⟨by rw [e], hwv.symm⟩
        · have y1 : ((k : Int) == 2) = false := by rw [beq_eq_false_iff_ne]; omega
          have y2 : ¬ (k : Int) = 2 := by omega
          by_cases h3 : k = 3
          · have y3 : ((k : Int) == 3) = true := by rw [beq_iff_eq]; omega
            have y4 : (k : Int) = 3 := by omega
            have e : bq = true := by rw [← hbq.out]; simp [h3]
            clear h2 h3
            go_wp2_with fail
            go_meet
            case rel => exact ⟨by rw [e], hwv.symm⟩
          · have y3 : ((k : Int) == 3) = false := by rw [beq_eq_false_iff_ne]; omega
            have y4 : ¬ (k : Int) = 3 := by omega
            have e : bq = false := by rw [← hbq.out]; simp [h2, h3]
            clear h2 h3
            go_wp2_with fail
            go_meet
            case rel => exact ⟨by rw [e], hwv.symm⟩
      case rest =>
        obtain ⟨rfl, hw3⟩ := hcut
        rw [hwv] at hw3
        subst hw3
        clear hwv
        go_upto_if 45 with fail
        go_cut [11, 13] from 33 to 68 (fun s11 s13 wx => ∃ (sT : ByteArray) (eT cT : Int) (ST : List ByteArray) (nT : ByteArray) (A2 : Option Addr) (q2 : Nat), s11 = .string sT ∧ s13 = .int .i64 eT ∧ Hid (UnifQ sT ⟨cT, ST, nT⟩ eT ∧ ST.length ≤ 63 ∧ sT.size ≤ 1048577) ∧ Hid (ST.length = mS k) ∧ Hid (StrsAt w5 (.slice A2 ST.length q2) ST) ∧ Hid (Blk wx wr.heap.size 24 #[.int .i64 cT, .slice A2 ST.length q2, .string nT] ∧ Below wr.heap.size wr wx))
        case first =>
          cases hbv : bq with
          | true =>
            have hk23 : k = 2 ∨ k = 3 := by have h := hbq.out; rw [hbv] at h; simpa using h
            have hml : Hid (SC.length = mS k) := Lib.hid (by rw [← hmS.out]; simp [hk23])
            clear hk23 hbv
            go_wp2_with fail
            go_meet
            case rel => exact ⟨O, eC, cC, SC, nC, As3, cs3, rfl, rfl, Lib.hid ⟨unhide HUC, hlC, hOz⟩, hml, Lib.hid (unhide H5).2.2.2.1, Lib.hid ⟨Blk.new _ _ _, (Below.refl _ _).alloc (Nat.le_refl _) _⟩⟩
          | false =>
            have hk23 : ¬ (k = 2 ∨ k = 3) := by have h := hbq.out; rw [hbv] at h; simpa using h
            have hml : Hid (SB.length = mS k) := Lib.hid (by rw [← hmS.out]; simp [hk23])
            clear hk23 hbv
            go_wp2_with fail
            go_meet
            case rel => exact ⟨line, eB, cB, SB, nB, As2, cs2, rfl, rfl, Lib.hid ⟨unhide HUB, hlB, hl⟩, hml, Lib.hid (unhide H5).2.2.1, Lib.hid ⟨(unhide HX).2.2, (Below.refl _ _).alloc (Nat.le_refl _) _⟩⟩
        case rest =>
          obtain ⟨sT, eT, cT, ST, nT, A2, q2, rfl, rfl, hsT, hml, hat, hwx⟩ := hcut
          clear b0 b1 b2 c0 c1 c2 d0 d1 d2 f0 f1 f2
          have hS1 := (unhide HX).2.1.call hwx.out.2
          have hb1 := (unhide HX).1.trans (hwx.out.2.mono (unhide HX).1.size)
          have hft := pasked_any sT wc (by have := hsT.out.2.2; omega) ((unhide H5).2.2.2.2.2.2.2.below hb1 (unhide H5).2.2.2.2.2.2.2.lt)
          have HF := hide hft; have HX1 := hide (And.intro hS1 (And.intro hb1 hwx.out.1))
          clear hS1 hb1 hft HX hwx
          go_wp2_with fail
          refine (unhide HF).mono ?_
          rintro e2 w7 ⟨hT7, hb7⟩
          obtain ⟨As7, cs7, rfl, hs7⟩ := hsT.out.1 _ _ _ hT7
          simp only at hs7 ⊢
          have hfS := (unhide HX1).1.far hs7
          have hb8 : Below wc.heap.size wc (w7.alloc (.cells #[.int .i64 cT, .slice As7 ST.length cs7, .string nT] 24)) := hb7.alloc hb7.size _
          have hS8 := (unhide HX1).1.call hb8
          have hB8 := (unhide HX1).2.1.trans (hb8.mono (unhide HX1).2.1.size)
          have hW8 := (unhide HX1).2.2.below hb8 (unhide HX1).2.2.lt
          have hA8 := Blk.new w7 24 #[.int .i64 cT, .slice As7 ST.length cs7, .string nT]
          have hwc5 : w5.heap.size ≤ wc.heap.size := (unhide HX1).2.1.size
          have hs8 : OwnT (w7.alloc (.cells #[.int .i64 cT, .slice As7 ST.length cs7, .string nT] 24)) w5.heap.size (.slice As7 ST.length cs7) ST := World.ownsRow.alloc (row_mono hs7 hwc5) _
          have hcall := sameRequest22_eq cT _ _ ST nT (w7.alloc (.cells #[.int .i64 cT, .slice As7 ST.length cs7, .string nT] 24)) (by have := hsT.out.2.1; omega) (ownT_strsQ hs8) (hat.out.below hB8)
          have e0 := hW8.cell 0; have e1 := hW8.cell 1; have e2 := hW8.cell 2
          simp only [List.getElem?_toArray, List.getElem?_cons_zero, List.getElem?_cons_succ] at e0 e1 e2
          have HC := hide hcall; have H8 := hide (And.intro hS8 (And.intro hB8 (And.intro hA8 hs8))); have HFS := hide hfS
          have hlt8 : w7.heap.size < (w7.alloc (.cells #[.int .i64 cT, .slice As7 ST.length cs7, .string nT] 24)).heap.size := hA8.lt
          have HLT := Lib.hid hlt8
          clear hcall hS8 hB8 hW8 hA8 hs8 hfS hlt8 hb8 hb7 hs7 hT7 HF HX1 hwc5
          go_wp2_with fail
          refine (unhide HC).mono ?_
          rintro e9 w9 ⟨rfl, hb9⟩
          have hS9 := (unhide H8).1.call hb9
          have hB9 := (unhide H8).2.1.trans (hb9.mono (unhide H8).2.1.size)
          have hA9 := (unhide H8).2.2.1.below hb9 HLT.out
          have hs9 : OwnT w9 w5.heap.size (.slice As7 ST.length cs7) ST := row_low (unhide H8).2.2.2 (fun k hk => (World.ownsRow.lt (unhide H8).2.2.2 k hk).2) hb9
          have a1 := hA9.cell 1
          simp only [List.getElem?_toArray, List.getElem?_cons_zero, List.getElem?_cons_succ] at a1
          clear hb9 H8 HC HLT e0 e1 e2
          generalize w7.heap.size = gA at *
          have hbA : Below w9.heap.size w9 (w9.alloc (.cells #[.slice As7 ST.length cs7] 22)) := (Below.refl _ _).alloc (Nat.le_refl _) _
          have hB12 := hB9.trans (hbA.mono hB9.size)
          have H12 := hide (And.intro (hS9.call hbA) (And.intro hB12 (World.ownsRow.alloc hs9 (.cells #[.slice As7 ST.length cs7] 22))))
          have hcv : Hid ((w9.alloc (.cells #[.slice As7 ST.length cs7] 22)).cell? ⟨w9.heap.size, 0, none⟩ = some (.slice As7 ST.length cs7)) := Lib.hid ((Blk.new w9 22 #[.slice As7 ST.length cs7]).cell 0)
          have hkn : k + 1 ≤ 1099511627776 := by omega
          clear hbA hB12 hS9 hB9 hA9 hs9
          go_wp2_with (at_builtin; go_must (refine wpList_apTS _ rfl _ _ rfl (unhide H12).1.o rfl hcv.out rfl rfl hkn ?_); intro v13 w13 hG; have HG := hide hG; clear hG)
          have hrow := (unhide H12).1.o
          have hS13 := (unhide H12).1.push (unhide HG) (by decide) (unhide H12).2.1.size (by rw [← hml.out]; exact (unhide H12).2.2) (unhide HFS)
          have hB13 := grew_below (unhide HG) hrow (unhide H12).2.1 (Nat.le_refl _) (unhide H12).2.1.size
          exact ⟨⟨k + 1, _, by go_num, by omega, hB13, hS13⟩, by simp [RowKit.intOf]; omega⟩
    · have t1 : ¬ (k : Int) < 5 := by omega
      obtain rfl : k = 5 := by omega
      have hmS5 : ∀ q, q < 5 → mS q ≤ 1099511627776 := fun q _ => by
        rw [← hmS.out]
        simp only
        split <;> omega
      have hap := apart_any _ _ _ _ _ _ wr (by omega) hmS5 hS.o (hS.ap1 hb.size mkQ)
      have HA := hide hap; have HB := hide hb
      clear hap hb hS
      go_wp2_with fail
      refine (unhide HA).mono ?_
      rintro e2 w7 ⟨rfl, hk7⟩
      have hb7 := (unhide HB).trans hk7.b
      have hbw := (unhide H5).2.2.2.2.1
      have HE := hide (hbw.trans (hb7.mono hbw.size))
      clear HA HB hk7 hb7 hbw
      go_wp2_with fail
      go_ret
      exact ⟨rfl, unhide HE⟩
end Go.Proofs.YtphjpdnheaeghaaDoor

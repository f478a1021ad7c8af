/-
  THE WALK of the law NoteFresh (its first part printed by tools/gen_fresh.py).
-/
import Derived.Test.YtphoflcilpopgaaGreatDoorRows
import Derived.Deep.CutRange
import Derived.Deep.CutBlock
import Derived.Test.YtphoflcilpopgaaGreatDoorGBase
import Derived.Test.YtphoflcilpopgaaGreatDoorSOthersF
import Derived.Test.YtphoflcilpopgaaGreatDoorSFreshA
set_option linter.unusedVariables false
set_option linter.unusedSimpArgs false
namespace Go.Proofs.YtphoflcilpopgaaGreatDoor
open Go.RowKit Go.Lib
set_option maxRecDepth 100000 in
set_option maxHeartbeats 8000000 in
theorem lawFresh_any (b text : ByteArray) (v : Value) (ks : List KeyR) (w : World) (hs : b.size ≤ 1048576) (hs2 : text.size ≤ 1048576) (hks : ∀ k ∈ ks, k.nm.size ≤ 1048576 ∧ k.sc.size ≤ 1048576) (hn : ks.length ≤ 1048576) (hV : KeysAt w v ks) (hT : LT w) :
    Calls Tryz.prog 3 #[.string b, v, .string text] w fun e w' => e = .returned (.bool true) ∧ Below w.heap.size w w' := by
  obtain ⟨ttb, ggb, rrb, zzb, hlb, hzb, hOB, hROB⟩ := open_unif b ks v hs hks hn
  obtain ⟨oot, ppt, nnt, est, yct, hct, hyt, hPT, hRPT⟩ := parse_unif text hs2
  have HOB := hide hOB; have HROB := hide hROB; have HPT := hide hPT; have HRPT := hide hRPT
  have HKY := hide hV; have HT := hide hT; have HB := hide (Below.refl w.heap.size w); have HKS := hide hks
  clear hOB hROB hPT hRPT hV hT hks
  go_enter Tryz.func3, Tryz.ntmps3
  go_wp2_with fail
  refine ((unhide HROB) w ((unhide HKY).below (unhide HB)) ((unhide HT).next (unhide HB))).mono ?_
  rintro e1 w1 ⟨⟨XA, Xa, XB, Xb, rfl, hg, hr, hf⟩, hb⟩
  have hb' : Below w.heap.size w (w1.alloc (.cells #[.string ttb, .slice XA ggb.length Xa, .slice XB rrb.length Xb] 25)) := hb.alloc hb.size _
  have HLX := hide (show (∀ k, (Value.slice XA ggb.length Xa).ownBlock = some k → w.heap.size ≤ k ∧ k < w1.heap.size) ∧ (∀ k, (Value.slice XB rrb.length Xb).ownBlock = some k → w.heap.size ≤ k ∧ k < w1.heap.size) ∧ w.heap.size ≤ w1.heap.size ∧ w1.heap.size < (w1.alloc (.cells #[.string ttb, .slice XA ggb.length Xa, .slice XB rrb.length Xb] 25)).heap.size from ⟨hg.lt, hr.lt, hb.size, by simp⟩)
  have HB := hide ((unhide HB).trans (hb'.mono (unhide HB).size))
  have HX := hide (HdO.new (t := ttb) hg hr); clear hg hr hf hb hb'
  go_wp2_with fail
  generalize (w1.alloc (.cells #[.string ttb, .slice XA ggb.length Xa, .slice XB rrb.length Xb] 25)) = v1 at *
  generalize w1.heap.size = mX at *
  refine ((unhide HRPT) v1).mono ?_
  rintro e2 w2 ⟨⟨YA, Ya, rfl, hg⟩, hb⟩
  have hb' : Below v1.heap.size v1 (w2.alloc (.cells #[.string oot, .int .i64 nnt, .string ppt, .slice YA est.length Ya] 30)) := hb.alloc hb.size _
  have HLY := hide (show (∀ k, (Value.slice YA est.length Ya).ownBlock = some k → v1.heap.size ≤ k ∧ k < w2.heap.size) ∧ v1.heap.size ≤ w2.heap.size ∧ w2.heap.size < (w2.alloc (.cells #[.string oot, .int .i64 nnt, .string ppt, .slice YA est.length Ya] 30)).heap.size from ⟨World.ownsRow.lt hg, hb.size, by simp⟩)
  have HB := hide ((unhide HB).trans (hb'.mono (unhide HB).size))
  have HX := hide ((unhide HX).low hb')
  have HY := hide (HdC.new (o := oot) (r := ppt) (n := nnt) hg); clear hg hb hb'
  go_wp2_with fail
  generalize (w2.alloc (.cells #[.string oot, .int .i64 nnt, .string ppt, .slice YA est.length Ya] 30)) = v2 at *
  generalize w2.heap.size = mY at *
  refine ((unhide HOB) v2 ((unhide HKY).below (unhide HB)) ((unhide HT).next (unhide HB))).mono ?_
  rintro e3 w3 ⟨⟨OA, Oa, OB, Ob, rfl, hg, hr, hf⟩, hb⟩
  have hb' : Below v2.heap.size v2 (w3.alloc (.cells #[.string ttb, .slice OA ggb.length Oa, .slice OB rrb.length Ob] 25)) := hb.alloc hb.size _
  have HLO := hide (show (∀ k, (Value.slice OA ggb.length Oa).ownBlock = some k → v2.heap.size ≤ k ∧ k < w3.heap.size) ∧ (∀ k, (Value.slice OB rrb.length Ob).ownBlock = some k → v2.heap.size ≤ k ∧ k < w3.heap.size) ∧ v2.heap.size ≤ w3.heap.size ∧ w3.heap.size < (w3.alloc (.cells #[.string ttb, .slice OA ggb.length Oa, .slice OB rrb.length Ob] 25)).heap.size from ⟨hg.lt, hr.lt, hb.size, by simp⟩)
  have HFO := hide hf
  have HB := hide ((unhide HB).trans (hb'.mono (unhide HB).size))
  have HX := hide ((unhide HX).low hb')
  have HY := hide ((unhide HY).low hb')
  have HO := hide (HdO.new (t := ttb) hg hr); clear hg hr hf hb hb'
  go_wp2_with fail
  generalize (w3.alloc (.cells #[.string ttb, .slice OA ggb.length Oa, .slice OB rrb.length Ob] 25)) = v3 at *
  generalize w3.heap.size = mO at *
  refine ((unhide HOB) v3 ((unhide HKY).below (unhide HB)) ((unhide HT).next (unhide HB))).mono ?_
  rintro e4 w4 ⟨⟨PA, Pa, PB, Pb, rfl, hg, hr, hf⟩, hb⟩
  have hb' : Below v3.heap.size v3 (w4.alloc (.cells #[.string ttb, .slice PA ggb.length Pa, .slice PB rrb.length Pb] 25)) := hb.alloc hb.size _
  have HLP := hide (show (∀ k, (Value.slice PA ggb.length Pa).ownBlock = some k → v3.heap.size ≤ k ∧ k < w4.heap.size) ∧ (∀ k, (Value.slice PB rrb.length Pb).ownBlock = some k → v3.heap.size ≤ k ∧ k < w4.heap.size) ∧ v3.heap.size ≤ w4.heap.size ∧ w4.heap.size < (w4.alloc (.cells #[.string ttb, .slice PA ggb.length Pa, .slice PB rrb.length Pb] 25)).heap.size from ⟨hg.lt, hr.lt, hb.size, by simp⟩)
  have HB := hide ((unhide HB).trans (hb'.mono (unhide HB).size))
  have HX := hide ((unhide HX).low hb')
  have HY := hide ((unhide HY).low hb')
  have HO := hide ((unhide HO).low hb')
  have HP := hide (HdO.new (t := ttb) hg hr); clear hg hr hf hb hb'
  go_wp2_with fail
  generalize (w4.alloc (.cells #[.string ttb, .slice PA ggb.length Pa, .slice PB rrb.length Pb] 25)) = v4 at *
  generalize w4.heap.size = mP at *
  refine ((unhide HPT) v4 ((unhide HT).next (unhide HB))).mono ?_
  rintro e5 w5 ⟨⟨CA, Ca, rfl, hg⟩, hb⟩
  have hb' : Below v4.heap.size v4 (w5.alloc (.cells #[.string oot, .int .i64 nnt, .string ppt, .slice CA est.length Ca] 30)) := hb.alloc hb.size _
  have HLC := hide (show (∀ k, (Value.slice CA est.length Ca).ownBlock = some k → v4.heap.size ≤ k ∧ k < w5.heap.size) ∧ v4.heap.size ≤ w5.heap.size ∧ w5.heap.size < (w5.alloc (.cells #[.string oot, .int .i64 nnt, .string ppt, .slice CA est.length Ca] 30)).heap.size from ⟨World.ownsRow.lt hg, hb.size, by simp⟩)
  have HB := hide ((unhide HB).trans (hb'.mono (unhide HB).size))
  have HX := hide ((unhide HX).low hb')
  have HY := hide ((unhide HY).low hb')
  have HO := hide ((unhide HO).low hb')
  have HP := hide ((unhide HP).low hb')
  have HC := hide (HdC.new (o := oot) (r := ppt) (n := nnt) hg); clear hg hb hb'
  go_wp2_with fail
  generalize (w5.alloc (.cells #[.string oot, .int .i64 nnt, .string ppt, .slice CA est.length Ca] 30)) = v5 at *
  generalize w5.heap.size = mC at *
  refine ((unhide HPT) v5 ((unhide HT).next (unhide HB))).mono ?_
  rintro e6 w6 ⟨⟨KA, Ka, rfl, hg⟩, hb⟩
  have hb' : Below v5.heap.size v5 (w6.alloc (.cells #[.string oot, .int .i64 nnt, .string ppt, .slice KA est.length Ka] 30)) := hb.alloc hb.size _
  have HLK := hide (show (∀ k, (Value.slice KA est.length Ka).ownBlock = some k → v5.heap.size ≤ k ∧ k < w6.heap.size) ∧ v5.heap.size ≤ w6.heap.size ∧ w6.heap.size < (w6.alloc (.cells #[.string oot, .int .i64 nnt, .string ppt, .slice KA est.length Ka] 30)).heap.size from ⟨World.ownsRow.lt hg, hb.size, by simp⟩)
  have HB := hide ((unhide HB).trans (hb'.mono (unhide HB).size))
  have HX := hide ((unhide HX).low hb')
  have HY := hide ((unhide HY).low hb')
  have HO := hide ((unhide HO).low hb')
  have HP := hide ((unhide HP).low hb')
  have HC := hide ((unhide HC).low hb')
  have HK := hide (HdC.new (o := oot) (r := ppt) (n := nnt) hg); clear hg hb hb'
  go_wp2_with fail
  generalize (w6.alloc (.cells #[.string oot, .int .i64 nnt, .string ppt, .slice KA est.length Ka] 30)) = v6 at *
  generalize w6.heap.size = mK at *
  refine (numl_any zzb v6 hzb).mono ?_
  rintro f1 v7 ⟨rfl, rfl⟩
  go_wp2_with fail
  refine (numl_any yct v6 hyt).mono ?_
  rintro f2 v8 ⟨rfl, rfl⟩
  go_wp2_with fail
  refine (othersF_any b text v ks v6 hs hs2 (unhide HKS) hn ((unhide HKY).below (unhide HB)) ((unhide HT).next (unhide HB))).mono ?_
  rintro f3 v9 ⟨rfl, hb⟩
  have HB := hide ((unhide HB).trans (hb.mono (unhide HB).size))
  have HX := hide ((unhide HX).low hb)
  have HY := hide ((unhide HY).low hb)
  have HO := hide ((unhide HO).low hb)
  have HP := hide ((unhide HP).low hb)
  have HC := hide ((unhide HC).low hb)
  have HK := hide ((unhide HK).low hb)
  have HLv := Lib.hid hb.size; clear hb
  have O0 := (unhide HO).1.cell 0; have O1 := (unhide HO).1.cell 1; have O2 := (unhide HO).1.cell 2
  simp only [List.getElem?_toArray, List.getElem?_cons_zero, List.getElem?_cons_succ] at O0 O1 O2
  have X0 := (unhide HX).1.cell 0; have X1 := (unhide HX).1.cell 1; have X2 := (unhide HX).1.cell 2
  simp only [List.getElem?_toArray, List.getElem?_cons_zero, List.getElem?_cons_succ] at X0 X1 X2
  go_wp2_with fail
  refine (opened_eq ttb _ _ _ _ ggb rrb v9 _ _ _ _ (by omega) (by omega) (unhide HO).2.1 (unhide HO).2.2 (unhide HX).2.1 (unhide HX).2.2).mono ?_
  rintro f0 u0 ⟨rfl, hb⟩
  have HB := hide ((unhide HB).trans (hb.mono (unhide HB).size))
  have HLu0 := Lib.hid hb.size
  have HX := hide ((unhide HX).low hb)
  have HY := hide ((unhide HY).low hb)
  have HO := hide ((unhide HO).low hb)
  have HP := hide ((unhide HP).low hb)
  have HC := hide ((unhide HC).low hb)
  have HK := hide ((unhide HK).low hb)
  clear hb O0 O1 O2 X0 X1 X2
  have P0 := (unhide HP).1.cell 0; have P1 := (unhide HP).1.cell 1; have P2 := (unhide HP).1.cell 2
  simp only [List.getElem?_toArray, List.getElem?_cons_zero, List.getElem?_cons_succ] at P0 P1 P2
  have X0 := (unhide HX).1.cell 0; have X1 := (unhide HX).1.cell 1; have X2 := (unhide HX).1.cell 2
  simp only [List.getElem?_toArray, List.getElem?_cons_zero, List.getElem?_cons_succ] at X0 X1 X2
  go_wp2_with fail
  refine (opened_eq ttb _ _ _ _ ggb rrb u0 _ _ _ _ (by omega) (by omega) (unhide HP).2.1 (unhide HP).2.2 (unhide HX).2.1 (unhide HX).2.2).mono ?_
  rintro f1 u1 ⟨rfl, hb⟩
  have HB := hide ((unhide HB).trans (hb.mono (unhide HB).size))
  have HLu1 := Lib.hid hb.size
  have HX := hide ((unhide HX).low hb)
  have HY := hide ((unhide HY).low hb)
  have HO := hide ((unhide HO).low hb)
  have HP := hide ((unhide HP).low hb)
  have HC := hide ((unhide HC).low hb)
  have HK := hide ((unhide HK).low hb)
  clear hb P0 P1 P2 X0 X1 X2
  have C0 := (unhide HC).1.cell 0; have C1 := (unhide HC).1.cell 1; have C2 := (unhide HC).1.cell 2; have C3 := (unhide HC).1.cell 3
  simp only [List.getElem?_toArray, List.getElem?_cons_zero, List.getElem?_cons_succ] at C0 C1 C2 C3
  have Y0 := (unhide HY).1.cell 0; have Y1 := (unhide HY).1.cell 1; have Y2 := (unhide HY).1.cell 2; have Y3 := (unhide HY).1.cell 3
  simp only [List.getElem?_toArray, List.getElem?_cons_zero, List.getElem?_cons_succ] at Y0 Y1 Y2 Y3
  go_wp2_with fail
  refine (alikeF_any oot ppt nnt _ _ est u1 (by omega) (ownT_strsF (unhide HC).2) (ownT_strsF (unhide HY).2)).mono ?_
  rintro f2 u2 ⟨rfl, hb⟩
  have HB := hide ((unhide HB).trans (hb.mono (unhide HB).size))
  have HLu2 := Lib.hid hb.size
  have HX := hide ((unhide HX).low hb)
  have HY := hide ((unhide HY).low hb)
  have HO := hide ((unhide HO).low hb)
  have HP := hide ((unhide HP).low hb)
  have HC := hide ((unhide HC).low hb)
  have HK := hide ((unhide HK).low hb)
  clear hb C0 C1 C2 C3 Y0 Y1 Y2 Y3
  have K0 := (unhide HK).1.cell 0; have K1 := (unhide HK).1.cell 1; have K2 := (unhide HK).1.cell 2; have K3 := (unhide HK).1.cell 3
  simp only [List.getElem?_toArray, List.getElem?_cons_zero, List.getElem?_cons_succ] at K0 K1 K2 K3
  have Y0 := (unhide HY).1.cell 0; have Y1 := (unhide HY).1.cell 1; have Y2 := (unhide HY).1.cell 2; have Y3 := (unhide HY).1.cell 3
  simp only [List.getElem?_toArray, List.getElem?_cons_zero, List.getElem?_cons_succ] at Y0 Y1 Y2 Y3
  go_wp2_with fail
  refine (alikeF_any oot ppt nnt _ _ est u2 (by omega) (ownT_strsF (unhide HK).2) (ownT_strsF (unhide HY).2)).mono ?_
  rintro f3 u3 ⟨rfl, hb⟩
  have HB := hide ((unhide HB).trans (hb.mono (unhide HB).size))
  have HLu3 := Lib.hid hb.size
  have HX := hide ((unhide HX).low hb)
  have HY := hide ((unhide HY).low hb)
  have HO := hide ((unhide HO).low hb)
  have HP := hide ((unhide HP).low hb)
  have HC := hide ((unhide HC).low hb)
  have HK := hide ((unhide HK).low hb)
  clear hb K0 K1 K2 K3 Y0 Y1 Y2 Y3
  have hbo : ∀ W, Fr3 u3 W (Value.slice OA ggb.length Oa).ownBlock (Value.slice OB rrb.length Ob).ownBlock (Value.slice CA est.length Ca).ownBlock → Blk W mO 25 #[.string ttb, .slice OA ggb.length Oa, .slice OB rrb.length Ob] := fun W h => h.blk (unhide HO).1 (own_blk_ne (unhide HO).2.1 (unhide HO).1 (by decide)) (own_blk_ne (unhide HO).2.2 (unhide HO).1 (by decide)) (own_blk_ne (unhide HC).2 (unhide HO).1 (by decide))
  have hbc : ∀ W, Fr3 u3 W (Value.slice OA ggb.length Oa).ownBlock (Value.slice OB rrb.length Ob).ownBlock (Value.slice CA est.length Ca).ownBlock → Blk W mC 30 #[.string oot, .int .i64 nnt, .string ppt, .slice CA est.length Ca] := fun W h => h.blk (unhide HC).1 (own_blk_ne (unhide HO).2.1 (unhide HC).1 (by decide)) (own_blk_ne (unhide HO).2.2 (unhide HC).1 (by decide)) (own_blk_ne (unhide HC).2 (unhide HC).1 (by decide))
  have HBO := hide hbo; have HBC := hide hbc; clear hbo hbc
  have hlg : ggb.length ≤ 16 := by omega
  have hlr : rrb.length ≤ 16 := by omega
  go_wp2_with fail
  go_loopw [19] (fun i W => ∃ (j : Nat) (l : List SigR), i = .int .i64 (j : Int) ∧ j ≤ ggb.length ∧ Hid (l.length = ggb.length ∧ ∀ q, q < j → l[q]? = some ⟨⟨#[49]⟩, ⟨#[]⟩, ⟨#[]⟩⟩) ∧ OwnG W v2.heap.size (.slice OA ggb.length Oa) l ∧ OwnG W v2.heap.size (.slice OB rrb.length Ob) rrb ∧ OwnT W v4.heap.size (.slice CA est.length Ca) est ∧ Fr3 u3 W (Value.slice OA ggb.length Oa).ownBlock (Value.slice OB rrb.length Ob).ownBlock (Value.slice CA est.length Ca).ownBlock) (fun i _ => ggb.length - (RowKit.intOf i).toNat)
  case atStart => exact ⟨0, ggb, rfl, Nat.zero_le _, Lib.hid ⟨rfl, fun q hq => absurd hq (by omega)⟩, (unhide HO).2.1, (unhide HO).2.2, (unhide HC).2, Fr3.refl _ _ _ _⟩
  case round =>
    obtain ⟨j, l, rfl, hj, hl, hG, hR, hE, hF⟩ := hrel
    have t0 : (0 : Int) ≤ (j : Int) := by omega
    have hB := unhide HBO _ hF
    have a1 := hB.cell 1
    simp only [List.getElem?_toArray, List.getElem?_cons_zero, List.getElem?_cons_succ] at a1
    clear hB
    rcases Nat.lt_or_ge j ggb.length with hlt | hge
    · have t1 : (j : Int) < (ggb.length : Int) := by omega
      have qb : j ≤ 16 := by omega
      obtain ⟨A', c', hv, hg⟩ := rowN_form hG
      injection hv with e1 e2 e3
      subst e1
      obtain ⟨g, rfl⟩ := hg (by rw [hl.out.1]; omega)
      have k0 := hG.cell j 0 (by rw [hl.out.1]; omega) (by omega)
      have k1 := hG.cell j 1 (by rw [hl.out.1]; omega) (by omega)
      have k2 := hG.cell j 2 (by rw [hl.out.1]; omega) (by omega)
      have f0 := rowN_frozenF hG (j * 3); have f1 := rowN_frozenF hG (j * 3 + 1); have f2 := rowN_frozenF hG (j * 3 + 2)
      simp only [SigR.cs, Nat.add_zero, List.getElem?_cons_zero, List.getElem?_cons_succ] at k0 k1 k2
      have hG2 := hG.set3 hl.out.1 j hlt ⟨⟨#[49]⟩, ⟨#[]⟩, ⟨#[]⟩⟩
      have hgb := gbyN_trans (gbyN_trans (gbyN_set wr g (j * 3) (.string ⟨#[49]⟩)) (gbyN_set _ g (j * 3 + 1) (.string ⟨#[]⟩))) (gbyN_set _ g (j * 3 + 2) (.string ⟨#[]⟩))
      have hR2 := World.ownsRow.kept hR hgb (.inr (unhide HFO g rfl))
      have hE2 := World.ownsRow.kept hE hgb (rowN_ne hE hG (by decide))
      have hF2 := hF.grown hgb (.inl rfl)
      have hl2 : Hid ((l.set j ⟨⟨#[49]⟩, ⟨#[]⟩, ⟨#[]⟩⟩).length = ggb.length ∧ ∀ q, q < j + 1 → (l.set j ⟨⟨#[49]⟩, ⟨#[]⟩, ⟨#[]⟩⟩)[q]? = some ⟨⟨#[49]⟩, ⟨#[]⟩, ⟨#[]⟩⟩) := Lib.hid (mark_next hl.out.1 hlt hl.out.2)
      have HX2 := hide (And.intro hG2 (And.intro hR2 (And.intro hE2 hF2)))
      generalize (l[j]'(by rw [hl.out.1]; exact hlt)).nm = z0 at *
      generalize (l[j]'(by rw [hl.out.1]; exact hlt)).id = z1 at *
      generalize (l[j]'(by rw [hl.out.1]; exact hlt)).mc = z2 at *
      clear hG hR hE hF hG2 hR2 hE2 hF2 hgb hl hg e3
      go_wp2_with fail
      exact ⟨⟨j + 1, _, by go_num, by omega, hl2, (unhide HX2).1, (unhide HX2).2.1, (unhide HX2).2.2.1, (unhide HX2).2.2.2⟩, by simp [RowKit.intOf]; omega⟩
    · have t1 : ¬ (j : Int) < (ggb.length : Int) := by omega
      obtain rfl : j = ggb.length := by omega
      have HX1 := hide (And.intro hG (And.intro hR (And.intro hE hF)))
      clear hG hR hE hF
      go_wp2_with fail
      obtain ⟨w20, rfl⟩ : ∃ w20 : World, w20 = wr := ⟨_, rfl⟩
      go_loopw [20] (fun i W => ∃ (q : Nat) (s : List SigR), i = .int .i64 (q : Int) ∧ q ≤ rrb.length ∧ Hid (s.length = rrb.length ∧ ∀ p, p < q → s[p]? = some ⟨⟨#[50]⟩, ⟨#[]⟩, ⟨#[]⟩⟩) ∧ OwnG W v2.heap.size (.slice OA ggb.length Oa) l ∧ OwnG W v2.heap.size (.slice OB rrb.length Ob) s ∧ OwnT W v4.heap.size (.slice CA est.length Ca) est ∧ Fr3 u3 W (Value.slice OA ggb.length Oa).ownBlock (Value.slice OB rrb.length Ob).ownBlock (Value.slice CA est.length Ca).ownBlock) (fun i _ => rrb.length - (RowKit.intOf i).toNat)
      case atStart => exact ⟨0, rrb, rfl, Nat.zero_le _, Lib.hid ⟨rfl, fun q hq => absurd hq (by omega)⟩, unhide HX1⟩
      case round =>
        obtain ⟨q, s, rfl, hq, hs3, hG, hR, hE, hF⟩ := hrel
        clear HX1
        have t2 : (0 : Int) ≤ (q : Int) := by omega
        have hB := unhide HBO _ hF
        have a1 := hB.cell 1; have a2 := hB.cell 2
        simp only [List.getElem?_toArray, List.getElem?_cons_zero, List.getElem?_cons_succ] at a1 a2
        clear hB
        rcases Nat.lt_or_ge q rrb.length with hlt | hge
        · have t3 : (q : Int) < (rrb.length : Int) := by omega
          have qb : q ≤ 16 := by omega
          obtain ⟨A', c', hv, hg⟩ := rowN_form hR
          injection hv with e1 e2 e3
          subst e1
          obtain ⟨g, rfl⟩ := hg (by rw [hs3.out.1]; omega)
          have k0 := hR.cell q 0 (by rw [hs3.out.1]; omega) (by omega)
          have k1 := hR.cell q 1 (by rw [hs3.out.1]; omega) (by omega)
          have k2 := hR.cell q 2 (by rw [hs3.out.1]; omega) (by omega)
          have f0 := rowN_frozenF hR (q * 3); have f1 := rowN_frozenF hR (q * 3 + 1); have f2 := rowN_frozenF hR (q * 3 + 2)
          simp only [SigR.cs, Nat.add_zero, List.getElem?_cons_zero, List.getElem?_cons_succ] at k0 k1 k2
          have hR2 := hR.set3 hs3.out.1 q hlt ⟨⟨#[50]⟩, ⟨#[]⟩, ⟨#[]⟩⟩
          have hgb := gbyN_trans (gbyN_trans (gbyN_set wr g (q * 3) (.string ⟨#[50]⟩)) (gbyN_set _ g (q * 3 + 1) (.string ⟨#[]⟩))) (gbyN_set _ g (q * 3 + 2) (.string ⟨#[]⟩))
          have hG2 := World.ownsRow.kept hG hgb (keep_ne (b := Value.slice (some ⟨g, 0, none⟩) rrb.length Ob) fun k hk e => unhide HFO k e hk)
          have hE2 := World.ownsRow.kept hE hgb (rowN_ne hE hR (by decide))
          have hF2 := hF.grown hgb (.inr (.inl rfl))
          have hl2 : Hid ((s.set q ⟨⟨#[50]⟩, ⟨#[]⟩, ⟨#[]⟩⟩).length = rrb.length ∧ ∀ p, p < q + 1 → (s.set q ⟨⟨#[50]⟩, ⟨#[]⟩, ⟨#[]⟩⟩)[p]? = some ⟨⟨#[50]⟩, ⟨#[]⟩, ⟨#[]⟩⟩) := Lib.hid (mark_next hs3.out.1 hlt hs3.out.2)
          have HX2 := hide (And.intro hG2 (And.intro hR2 (And.intro hE2 hF2)))
          generalize (s[q]'(by rw [hs3.out.1]; exact hlt)).nm = z0 at *
          generalize (s[q]'(by rw [hs3.out.1]; exact hlt)).id = z1 at *
          generalize (s[q]'(by rw [hs3.out.1]; exact hlt)).mc = z2 at *
          clear hG hR hE hF hG2 hR2 hE2 hF2 hgb hs3 hg e3
          go_wp2_with fail
          exact ⟨⟨q + 1, _, by go_num, by omega, hl2, (unhide HX2).1, (unhide HX2).2.1, (unhide HX2).2.2.1, (unhide HX2).2.2.2⟩, by simp [RowKit.intOf]; omega⟩
        · have t3 : ¬ (q : Int) < (rrb.length : Int) := by omega
          obtain rfl : q = rrb.length := by omega
          have HX1 := hide (And.intro hG (And.intro hR (And.intro hE hF)))
          clear hG hR hE hF
          go_wp2_with fail
          obtain ⟨w21, rfl⟩ : ∃ w21 : World, w21 = wr := ⟨_, rfl⟩
          go_loopw [21] (fun i W => ∃ (p : Nat) (x : List ByteArray), i = .int .i64 (p : Int) ∧ p ≤ est.length ∧ Hid (x.length = est.length ∧ ∀ r, r < p → x[r]? = some ⟨#[51]⟩) ∧ OwnG W v2.heap.size (.slice OA ggb.length Oa) l ∧ OwnG W v2.heap.size (.slice OB rrb.length Ob) s ∧ OwnT W v4.heap.size (.slice CA est.length Ca) x ∧ Fr3 u3 W (Value.slice OA ggb.length Oa).ownBlock (Value.slice OB rrb.length Ob).ownBlock (Value.slice CA est.length Ca).ownBlock) (fun i _ => est.length - (RowKit.intOf i).toNat)
          case atStart => exact ⟨0, est, rfl, Nat.zero_le _, Lib.hid ⟨rfl, fun q hq => absurd hq (by omega)⟩, unhide HX1⟩
          case round =>
            obtain ⟨p, x, rfl, hp, hx3, hG, hR, hE, hF⟩ := hrel
            clear HX1
            have t4 : (0 : Int) ≤ (p : Int) := by omega
            have hB := unhide HBC _ hF
            have a3 := hB.cell 3
            have hB2 := unhide HBO _ hF
            have a1 := hB2.cell 1; have a2 := hB2.cell 2
            simp only [List.getElem?_toArray, List.getElem?_cons_zero, List.getElem?_cons_succ] at a1 a2 a3
            clear hB hB2
            rcases Nat.lt_or_ge p est.length with hlt | hge
            · have t5 : (p : Int) < (est.length : Int) := by omega
              have qb : p ≤ 1099511627776 := by omega
              obtain ⟨A', c', hv, hg⟩ := rowN_form hE
              injection hv with e1 e2 e3
              subst e1
              obtain ⟨g, rfl⟩ := hg (by rw [hx3.out.1]; omega)
              have k0 := str_first (ys := []) (mk := x[p]'(by rw [hx3.out.1]; exact hlt)) (m := est.length) (by rw [List.append_nil, ← hx3.out.1]; exact hx3.out.1 ▸ hE) (List.getElem?_eq_getElem (by rw [hx3.out.1]; exact hlt)) hlt
              have f0 := rowN_frozenF hE p
              have hE2 := hE.setF hx3.out.1 p hlt ⟨#[51]⟩
              have hgb := gbyN_set wr g p (.string ⟨#[51]⟩)
              have hG2 := World.ownsRow.kept hG hgb (rowN_ne hG hE (by decide))
              have hR2 := World.ownsRow.kept hR hgb (rowN_ne hR hE (by decide))
              have hF2 := hF.grown hgb (.inr (.inr (.inl rfl)))
              have hl2 : Hid ((x.set p ⟨#[51]⟩).length = est.length ∧ ∀ r, r < p + 1 → (x.set p ⟨#[51]⟩)[r]? = some ⟨#[51]⟩) := Lib.hid (mark_next hx3.out.1 hlt hx3.out.2)
              have HX2 := hide (And.intro hG2 (And.intro hR2 (And.intro hE2 hF2)))
              generalize x[p]'(by rw [hx3.out.1]; exact hlt) = z0 at *
              clear hG hR hE hF hG2 hR2 hE2 hF2 hgb hx3 hg e3
              go_wp2_with fail
              exact ⟨⟨p + 1, _, by go_num, by omega, hl2, (unhide HX2).1, (unhide HX2).2.1, (unhide HX2).2.2.1, (unhide HX2).2.2.2⟩, by simp [RowKit.intOf]; omega⟩
            · have t5 : ¬ (p : Int) < (est.length : Int) := by omega
              obtain rfl : p = est.length := by omega
              have hz1 : v2.heap.size ≤ u3.heap.size := Nat.le_trans (unhide HLO).2.2.1 (Nat.le_of_lt (unhide HO).1.lt)
              have hz3 : v4.heap.size ≤ u3.heap.size := Nat.le_trans (unhide HLC).2.1 (Nat.le_of_lt (unhide HC).1.lt)
              have hA := A3.start hG hR hE hl.out.1 hs3.out.1 hx3.out.1 (unhide HFO) hF hz1 hz3
              have hA1 := hA.call ((Below.refl wr.heap.size wr).alloc (Nat.le_refl _) (.cells #[.string ⟨#[49]⟩, .string ⟨#[]⟩, .string ⟨#[]⟩] 43))
              have HA := hide (And.intro hA1 (Blk.new wr 43 #[.string ⟨#[49]⟩, .string ⟨#[]⟩, .string ⟨#[]⟩]))
              have qb1 : ggb.length + 0 + 1 ≤ 1099511627776 := by omega
              have qb2 : rrb.length + 0 + 1 ≤ 1099511627776 := by omega
              have qb3 : est.length + 0 + 1 ≤ 1099511627776 + 1099511627776 := by omega
              clear hG hR hE hF hA hA1 hz1 hz3
              go_upto_region 24 with (at_builtin; go_must (refine wpList_apGF _ rfl _ _ rfl (unhide HA).1.t1.u rfl (y := ⟨⟨#[49]⟩, ⟨#[]⟩, ⟨#[]⟩⟩) (unhide HA).2 rfl qb1 ?_); intro n1 w22 hg1; have HA2 := hide ((unhide HA).1.app1 hg1); clear hg1)
              have hB := unhide HBO _ (unhide HA2).fr
              have a2 := hB.cell 2
              simp only [List.getElem?_toArray, List.getElem?_cons_zero, List.getElem?_cons_succ] at a2
              have hA3 := (unhide HA2).call ((Below.refl w22.heap.size w22).alloc (Nat.le_refl _) (.cells #[.string ⟨#[50]⟩, .string ⟨#[]⟩, .string ⟨#[]⟩] 43))
              have HA3 := hide (And.intro hA3 (Blk.new w22 43 #[.string ⟨#[50]⟩, .string ⟨#[]⟩, .string ⟨#[]⟩]))
              clear hB hA3 HA HA2
              go_upto_region 25 with (at_builtin; go_must (refine wpList_apGF _ rfl _ _ rfl (unhide HA3).1.t2.u rfl (y := ⟨⟨#[50]⟩, ⟨#[]⟩, ⟨#[]⟩⟩) (unhide HA3).2 rfl qb2 ?_); intro n2 w23 hg2; have HA4 := hide ((unhide HA3).1.app2 hg2); clear hg2)
              have hB := unhide HBC _ (unhide HA4).fr
              have a3 := hB.cell 3
              simp only [List.getElem?_toArray, List.getElem?_cons_zero, List.getElem?_cons_succ] at a3
              have hA5 := (unhide HA4).call ((Below.refl w23.heap.size w23).alloc (Nat.le_refl _) (.cells #[.string ⟨#[51]⟩] 9))
              have HA5 := hide (And.intro hA5 (Blk.new w23 9 #[.string ⟨#[51]⟩]))
              clear hB hA5 HA3 HA4
              go_wp2_with (at_builtin; go_must (refine wpList_apTF _ rfl _ _ rfl (unhide HA5).1.t3.u rfl (y := ⟨#[51]⟩) (unhide HA5).2 rfl qb3 ?_); intro n3 w24 hg3; have HA6 := hide ((unhide HA5).1.app3 hg3); clear hg3)
              clear HA5 a1 a2 a3
              go_loopw [22, 23, 24, 25] (fun z1 z2 z3 i W => ∃ (k : Nat) (y1 y2 y3 : List Value), i = .int .i64 (k : Int) ∧ k ≤ 64 ∧ A3 u3 W v2.heap.size v4.heap.size (.slice OA ggb.length Oa) (.slice OB rrb.length Ob) (.slice CA est.length Ca) z1 z2 z3 ggb.length rrb.length est.length (k + 1) (k + 1) (k + 1) (sigCells l) (sigCells s) (x.map Value.string) y1 y2 y3) (fun _ _ _ i _ => 64 - (RowKit.intOf i).toNat)
              case atStart => exact ⟨0, _, _, _, rfl, Nat.zero_le _, unhide HA6⟩
              case round =>
                obtain ⟨k, y1, y2, y3, rfl, hk, hA⟩ := hrel
                clear HA6
                have t6 : (0 : Int) ≤ (k : Int) := by omega
                rcases Nat.lt_or_ge k 64 with hlt | hge
                · have t7 : (k : Int) < 64 := by omega
                  have qc1 : ggb.length + (k + 1) + 1 ≤ 1099511627776 := by omega
                  have qc2 : rrb.length + (k + 1) + 1 ≤ 1099511627776 := by omega
                  have qc3 : est.length + (k + 1) + 1 ≤ 1099511627776 + 1099511627776 := by omega
                  have hA1 := hA.call ((Below.refl wr.heap.size wr).alloc (Nat.le_refl _) (.cells #[.string ⟨#[49]⟩, .string ⟨#[]⟩, .string ⟨#[]⟩] 43))
                  have HA := hide (And.intro hA1 (Blk.new wr 43 #[.string ⟨#[49]⟩, .string ⟨#[]⟩, .string ⟨#[]⟩]))
                  clear hA hA1
                  go_upto_region 30 with (at_builtin; go_must (refine wpList_apGF _ rfl _ _ rfl (unhide HA).1.t1.u rfl (y := ⟨⟨#[49]⟩, ⟨#[]⟩, ⟨#[]⟩⟩) (unhide HA).2 rfl qc1 ?_); intro p1 w25 hg1; have HA2 := hide ((unhide HA).1.app1 hg1); clear hg1)
                  have hA3 := (unhide HA2).call ((Below.refl w25.heap.size w25).alloc (Nat.le_refl _) (.cells #[.string ⟨#[50]⟩, .string ⟨#[]⟩, .string ⟨#[]⟩] 43))
                  have HA3 := hide (And.intro hA3 (Blk.new w25 43 #[.string ⟨#[50]⟩, .string ⟨#[]⟩, .string ⟨#[]⟩]))
                  clear hA3 HA HA2
                  go_upto_region 31 with (at_builtin; go_must (refine wpList_apGF _ rfl _ _ rfl (unhide HA3).1.t2.u rfl (y := ⟨⟨#[50]⟩, ⟨#[]⟩, ⟨#[]⟩⟩) (unhide HA3).2 rfl qc2 ?_); intro p2 w26 hg2; have HA4 := hide ((unhide HA3).1.app2 hg2); clear hg2)
                  have hA5 := (unhide HA4).call ((Below.refl w26.heap.size w26).alloc (Nat.le_refl _) (.cells #[.string ⟨#[51]⟩] 9))
                  have HA5 := hide (And.intro hA5 (Blk.new w26 9 #[.string ⟨#[51]⟩]))
                  clear hA5 HA3 HA4
                  go_wp2_with (at_builtin; go_must (refine wpList_apTF _ rfl _ _ rfl (unhide HA5).1.t3.u rfl (y := ⟨#[51]⟩) (unhide HA5).2 rfl qc3 ?_); intro p3 w27 hg3; have HA6 := hide ((unhide HA5).1.app3 hg3); clear hg3)
                  exact ⟨⟨k + 1, _, _, _, by go_num, by omega, unhide HA6⟩, by simp [RowKit.intOf]; omega⟩
                · have t7 : ¬ (k : Int) < 64 := by omega
                  obtain rfl : k = 64 := by omega
                  obtain ⟨Z1, d1, rfl, hz1⟩ := rowN_form hA.t1.u
                  obtain ⟨Z2, d2, rfl, hz2⟩ := rowN_form hA.t2.u
                  obtain ⟨Z3, d3, rfl, hz3⟩ := rowN_form hA.t3.u
                  obtain ⟨N1, hN1⟩ : ∃ N1, ggb.length + (64 + 1) = N1 := ⟨_, rfl⟩
                  obtain ⟨N2, hN2⟩ : ∃ N2, rrb.length + (64 + 1) = N2 := ⟨_, rfl⟩
                  obtain ⟨N3, hN3⟩ : ∃ N3, est.length + (64 + 1) = N3 := ⟨_, rfl⟩
                  have hu1 := hA.t1.u; have hu2 := hA.t2.u; have hu3 := hA.t3.u; have hv1 := hA.t1.v; have hv2 := hA.t2.v; have hv3 := hA.t3.v; have hfr := hA.fr
                  obtain ⟨Y1, d4, hf1, hg1⟩ := rowN_form hv1; obtain ⟨Y2, d5, hf2, hg2⟩ := rowN_form hv2; obtain ⟨Y3, d6, hf3, hg3⟩ := rowN_form hv3
                  injection hf1 with e1 e2 e3; injection hf2 with e4 e5 e6; injection hf3 with e7 e8 e9
                  subst e1 e4 e7
                  rw [hN1] at hz1 hu1 ⊢
                  rw [hN2] at hz2 hu2 ⊢
                  rw [hN3] at hz3 hu3 ⊢
                  have HZ := hide (And.intro hz1 (And.intro hz2 (And.intro hz3 (And.intro hg1 (And.intro hg2 hg3)))))
                  have HU := hide (And.intro hu1 (And.intro hu2 (And.intro hu3 (And.intro hv1 (And.intro hv2 hv3))))); have HFR := hide hfr
                  have hn1 : ggb.length ≤ N1 ∧ rrb.length ≤ N2 ∧ est.length ≤ N3 := by omega
                  obtain ⟨hn1, hn2, hn3⟩ := hn1
                  clear hA hz1 hz2 hz3 hu1 hu2 hu3 hv1 hv2 hv3 hfr hg1 hg2 hg3 e2 e3 e5 e6 e8 e9 hN1 hN2 hN3
                  go_wp2_with fail
                  obtain ⟨w30, rfl⟩ : ∃ w30 : World, w30 = wr := ⟨_, rfl⟩
                  go_loopw [26] (fun i W => ∃ p : Nat, i = .int .i64 (p : Int) ∧ p ≤ ggb.length ∧ Hid (W = w30)) (fun i _ => ggb.length - (RowKit.intOf i).toNat)
                  case atStart => exact ⟨0, rfl, Nat.zero_le _, Lib.hid rfl⟩
                  case round =>
                    obtain ⟨p, rfl, hp, hw⟩ := hrel
                    have hw' := hw.out
                    subst hw'
                    have s0 : (0 : Int) ≤ (p : Int) := by omega
                    have hB1 := unhide HBO _ (unhide HFR); have hB2 := unhide HBC _ (unhide HFR)
                    have a1 := hB1.cell 1; have a2 := hB1.cell 2; have a3 := hB2.cell 3
                    simp only [List.getElem?_toArray, List.getElem?_cons_zero, List.getElem?_cons_succ] at a1 a2 a3
                    clear hB1 hB2
                    rcases Nat.lt_or_ge p ggb.length with hlt | hge
                    · have s1 : (p : Int) < (ggb.length : Int) := by omega
                      have s2 : (p : Int) < (N1 : Int) := by omega
                      have qb : p ≤ 1099511627776 := by omega
                      obtain ⟨g, rfl⟩ := (unhide HZ).2.2.2.1 (by omega)
                      obtain ⟨g2, rfl⟩ := (unhide HZ).1 (by omega)
                      have c0 := sig_first (ys := []) (by rw [List.append_nil]; exact (unhide HU).2.2.2.1) (hl.out.2 p hlt) hlt
                      have d0 := sig_first (unhide HU).1 (hl.out.2 p hlt) (by omega)
                      go_wp2_with fail
                      exact ⟨⟨p + 1, by go_num, by omega, Lib.hid (by first | trivial | rfl)⟩, by simp [RowKit.intOf]; omega⟩
                    · have s1 : ¬ (p : Int) < (ggb.length : Int) := by omega
                      go_wp2_with fail
                      clear a1 a2 a3 hw hp hge s1 s0
                      obtain ⟨w31, rfl⟩ : ∃ w31 : World, w31 = wr := ⟨_, rfl⟩
                      go_loopw [27] (fun i W => ∃ p : Nat, i = .int .i64 (p : Int) ∧ p ≤ rrb.length ∧ Hid (W = w31)) (fun i _ => rrb.length - (RowKit.intOf i).toNat)
                      case atStart => exact ⟨0, rfl, Nat.zero_le _, Lib.hid rfl⟩
                      case round =>
                        obtain ⟨p, rfl, hp, hw⟩ := hrel
                        have hw' := hw.out
                        subst hw'
                        have s0 : (0 : Int) ≤ (p : Int) := by omega
                        have hB1 := unhide HBO _ (unhide HFR); have hB2 := unhide HBC _ (unhide HFR)
                        have a1 := hB1.cell 1; have a2 := hB1.cell 2; have a3 := hB2.cell 3
                        simp only [List.getElem?_toArray, List.getElem?_cons_zero, List.getElem?_cons_succ] at a1 a2 a3
                        clear hB1 hB2
                        rcases Nat.lt_or_ge p rrb.length with hlt | hge
                        · have s1 : (p : Int) < (rrb.length : Int) := by omega
                          have s2 : (p : Int) < (N2 : Int) := by omega
                          have qb : p ≤ 1099511627776 := by omega
                          obtain ⟨g, rfl⟩ := (unhide HZ).2.2.2.2.1 (by omega)
                          obtain ⟨g2, rfl⟩ := (unhide HZ).2.1 (by omega)
                          have c0 := sig_first (ys := []) (by rw [List.append_nil]; exact (unhide HU).2.2.2.2.1) (hs3.out.2 p hlt) hlt
                          have d0 := sig_first (unhide HU).2.1 (hs3.out.2 p hlt) (by omega)
                          go_wp2_with fail
                          exact ⟨⟨p + 1, by go_num, by omega, Lib.hid (by first | trivial | rfl)⟩, by simp [RowKit.intOf]; omega⟩
                        · have s1 : ¬ (p : Int) < (rrb.length : Int) := by omega
                          go_wp2_with fail
                          clear a1 a2 a3 hw hp hge s1 s0
                          obtain ⟨w32, rfl⟩ : ∃ w32 : World, w32 = wr := ⟨_, rfl⟩
                          go_loopw [28] (fun i W => ∃ p : Nat, i = .int .i64 (p : Int) ∧ p ≤ est.length ∧ Hid (W = w32)) (fun i _ => est.length - (RowKit.intOf i).toNat)
                          case atStart => exact ⟨0, rfl, Nat.zero_le _, Lib.hid rfl⟩
                          case round =>
                            obtain ⟨p, rfl, hp, hw⟩ := hrel
                            have hw' := hw.out
                            subst hw'
                            have s0 : (0 : Int) ≤ (p : Int) := by omega
                            have hB1 := unhide HBO _ (unhide HFR); have hB2 := unhide HBC _ (unhide HFR)
                            have a1 := hB1.cell 1; have a2 := hB1.cell 2; have a3 := hB2.cell 3
                            simp only [List.getElem?_toArray, List.getElem?_cons_zero, List.getElem?_cons_succ] at a1 a2 a3
                            clear hB1 hB2
                            rcases Nat.lt_or_ge p est.length with hlt | hge
                            · have s1 : (p : Int) < (est.length : Int) := by omega
                              have s2 : (p : Int) < (N3 : Int) := by omega
                              have qb : p ≤ 1099511627776 := by omega
                              obtain ⟨g, rfl⟩ := (unhide HZ).2.2.2.2.2 (by omega)
                              obtain ⟨g2, rfl⟩ := (unhide HZ).2.2.1 (by omega)
                              have c0 := str_first (ys := []) (by rw [List.append_nil]; exact (unhide HU).2.2.2.2.2) (hx3.out.2 p hlt) hlt
                              have d0 := str_first (unhide HU).2.2.1 (hx3.out.2 p hlt) (by omega)
                              go_wp2_with fail
                              exact ⟨⟨p + 1, by go_num, by omega, Lib.hid (by first | trivial | rfl)⟩, by simp [RowKit.intOf]; omega⟩
                            · have s1 : ¬ (p : Int) < (est.length : Int) := by omega
                              obtain ⟨w33, rfl⟩ : ∃ w33 : World, w33 = wr := ⟨_, rfl⟩
                              have hLX := unhide HLX; have hLY := unhide HLY; have hLO := unhide HLO; have hLP := unhide HLP; have hLC := unhide HLC; have hLK := unhide HLK
                              have far3 : ∀ k, ¬ (v2.heap.size ≤ k ∧ k < mO) → ¬ (v4.heap.size ≤ k ∧ k < mC) → (Value.slice OA ggb.length Oa).ownBlock ≠ some k ∧ (Value.slice OB rrb.length Ob).ownBlock ≠ some k ∧ (Value.slice CA est.length Ca).ownBlock ≠ some k := fun k h h' => ⟨fun q => h (hLO.1 k q), fun q => h (hLO.2.1 k q), fun q => h' (hLC.1 k q)⟩
                              have hF := unhide HFR
                              have hX2 := (unhide HX).fr hF (far3 mX (by omega) (by omega)) (fun k hk => far3 k (by have := hLX.1 k hk; omega) (by have := hLX.1 k hk; omega)) (fun k hk => far3 k (by have := hLX.2.1 k hk; omega) (by have := hLX.2.1 k hk; omega))
                              have hP2 := (unhide HP).fr hF (far3 mP (by omega) (by omega)) (fun k hk => far3 k (by have := hLP.1 k hk; omega) (by have := hLP.1 k hk; omega)) (fun k hk => far3 k (by have := hLP.2.1 k hk; omega) (by have := hLP.2.1 k hk; omega))
                              have hY2 := (unhide HY).fr hF (far3 mY (by omega) (by omega)) (fun k hk => far3 k (by have := hLY.1 k hk; omega) (by have := hLY.1 k hk; omega))
                              have hK2 := (unhide HK).fr hF (far3 mK (by omega) (by omega)) (fun k hk => far3 k (by have := hLK.1 k hk; omega) (by have := hLK.1 k hk; omega))
                              have hBw := (unhide HB).trans (hF.below (unhide HB).size (fun k hk => by have := hLO.1 k hk; omega) (fun k hk => by have := hLO.2.1 k hk; omega) (fun k hk => by have := hLC.1 k hk; omega))
                              have HX := hide hX2; have HP := hide hP2; have HY := hide hY2; have HK := hide hK2; have HB := hide hBw
                              clear hLX hLY hLO hLP hLC hLK far3 hF hX2 hP2 hY2 hK2 hBw HO HC
                              go_wp2_with fail
                              clear a1 a2 a3
                              refine ((unhide HOB) w33 ((unhide HKY).below (unhide HB)) ((unhide HT).next (unhide HB))).mono ?_
                              rintro e41 w41 ⟨⟨QA, Qa, QB, Qb, rfl, hg, hr, -⟩, hb⟩
                              have hb' : Below w33.heap.size w33 (w41.alloc (.cells #[.string ttb, .slice QA ggb.length Qa, .slice QB rrb.length Qb] 25)) := hb.alloc hb.size _
                              have HB := hide ((unhide HB).trans (hb'.mono (unhide HB).size))
                              have HX := hide ((unhide HX).low hb')
                              have HP := hide ((unhide HP).low hb')
                              have HY := hide ((unhide HY).low hb')
                              have HK := hide ((unhide HK).low hb')
                              have HQ := hide (HdO.new (t := ttb) hg hr); clear hg hr hb hb'
                              go_wp2_with fail
                              generalize (w41.alloc (.cells #[.string ttb, .slice QA ggb.length Qa, .slice QB rrb.length Qb] 25)) = w42 at *
                              generalize w41.heap.size = mQ at *
                              refine ((unhide HPT) w42 ((unhide HT).next (unhide HB))).mono ?_
                              rintro e43 w43 ⟨⟨MA, Ma, rfl, hg⟩, hb⟩
                              have hb' : Below w42.heap.size w42 (w43.alloc (.cells #[.string oot, .int .i64 nnt, .string ppt, .slice MA est.length Ma] 30)) := hb.alloc hb.size _
                              have HB := hide ((unhide HB).trans (hb'.mono (unhide HB).size))
                              have HX := hide ((unhide HX).low hb')
                              have HP := hide ((unhide HP).low hb')
                              have HY := hide ((unhide HY).low hb')
                              have HK := hide ((unhide HK).low hb')
                              have HQ := hide ((unhide HQ).low hb')
                              have HM := hide (HdC.new (o := oot) (r := ppt) (n := nnt) hg); clear hg hb hb'
                              generalize hv44 : (w43.alloc (.cells #[.string oot, .int .i64 nnt, .string ppt, .slice MA est.length Ma] 30)) = w44 at HB HX HP HY HK HQ HM
                              have P0 := (unhide HP).1.cell 0; have P1 := (unhide HP).1.cell 1; have P2 := (unhide HP).1.cell 2
                              simp only [List.getElem?_toArray, List.getElem?_cons_zero, List.getElem?_cons_succ] at P0 P1 P2
                              have X0 := (unhide HX).1.cell 0; have X1 := (unhide HX).1.cell 1; have X2 := (unhide HX).1.cell 2
                              simp only [List.getElem?_toArray, List.getElem?_cons_zero, List.getElem?_cons_succ] at X0 X1 X2
                              go_wp2_with fail
                              clear hv44
                              refine (opened_eq ttb _ _ _ _ ggb rrb w44 _ _ _ _ (by omega) (by omega) (unhide HP).2.1 (unhide HP).2.2 (unhide HX).2.1 (unhide HX).2.2).mono ?_
                              rintro g0 x50 ⟨rfl, hb⟩
                              have HB := hide ((unhide HB).trans (hb.mono (unhide HB).size))
                              have HK := hide ((unhide HK).low hb)
                              have HM := hide ((unhide HM).low hb)
                              have HQ := hide ((unhide HQ).low hb)
                              have HX := hide ((unhide HX).low hb)
                              have HY := hide ((unhide HY).low hb)
                              clear hb P0 P1 P2 X0 X1 X2
                              have K0 := (unhide HK).1.cell 0; have K1 := (unhide HK).1.cell 1; have K2 := (unhide HK).1.cell 2; have K3 := (unhide HK).1.cell 3
                              simp only [List.getElem?_toArray, List.getElem?_cons_zero, List.getElem?_cons_succ] at K0 K1 K2 K3
                              have Y0 := (unhide HY).1.cell 0; have Y1 := (unhide HY).1.cell 1; have Y2 := (unhide HY).1.cell 2; have Y3 := (unhide HY).1.cell 3
                              simp only [List.getElem?_toArray, List.getElem?_cons_zero, List.getElem?_cons_succ] at Y0 Y1 Y2 Y3
                              go_wp2_with fail
                              refine (alikeF_any oot ppt nnt _ _ est x50 (by omega) (ownT_strsF (unhide HK).2) (ownT_strsF (unhide HY).2)).mono ?_
                              rintro g1 x51 ⟨rfl, hb⟩
                              have HB := hide ((unhide HB).trans (hb.mono (unhide HB).size))
                              have HM := hide ((unhide HM).low hb)
                              have HQ := hide ((unhide HQ).low hb)
                              have HX := hide ((unhide HX).low hb)
                              have HY := hide ((unhide HY).low hb)
                              clear hb K0 K1 K2 K3 Y0 Y1 Y2 Y3
                              have Q0 := (unhide HQ).1.cell 0; have Q1 := (unhide HQ).1.cell 1; have Q2 := (unhide HQ).1.cell 2
                              simp only [List.getElem?_toArray, List.getElem?_cons_zero, List.getElem?_cons_succ] at Q0 Q1 Q2
                              have X0 := (unhide HX).1.cell 0; have X1 := (unhide HX).1.cell 1; have X2 := (unhide HX).1.cell 2
                              simp only [List.getElem?_toArray, List.getElem?_cons_zero, List.getElem?_cons_succ] at X0 X1 X2
                              go_wp2_with fail
                              refine (opened_eq ttb _ _ _ _ ggb rrb x51 _ _ _ _ (by omega) (by omega) (unhide HQ).2.1 (unhide HQ).2.2 (unhide HX).2.1 (unhide HX).2.2).mono ?_
                              rintro g2 x52 ⟨rfl, hb⟩
                              have HB := hide ((unhide HB).trans (hb.mono (unhide HB).size))
                              have HM := hide ((unhide HM).low hb)
                              have HY := hide ((unhide HY).low hb)
                              clear hb Q0 Q1 Q2 X0 X1 X2
                              have M0 := (unhide HM).1.cell 0; have M1 := (unhide HM).1.cell 1; have M2 := (unhide HM).1.cell 2; have M3 := (unhide HM).1.cell 3
                              simp only [List.getElem?_toArray, List.getElem?_cons_zero, List.getElem?_cons_succ] at M0 M1 M2 M3
                              have Y0 := (unhide HY).1.cell 0; have Y1 := (unhide HY).1.cell 1; have Y2 := (unhide HY).1.cell 2; have Y3 := (unhide HY).1.cell 3
                              simp only [List.getElem?_toArray, List.getElem?_cons_zero, List.getElem?_cons_succ] at Y0 Y1 Y2 Y3
                              go_wp2_with fail
                              refine (alikeF_any oot ppt nnt _ _ est x52 (by omega) (ownT_strsF (unhide HM).2) (ownT_strsF (unhide HY).2)).mono ?_
                              rintro g3 x53 ⟨rfl, hb⟩
                              have HB := hide ((unhide HB).trans (hb.mono (unhide HB).size))
                              clear hb M0 M1 M2 M3 Y0 Y1 Y2 Y3
                              go_wp2_with fail
                              go_ret
                              exact ⟨rfl, unhide HB⟩
set_option maxRecDepth 100000 in
theorem noteFresh_walk {H : Type} {enc : TypeId × Value → H} (W : World) (base : Nat) (v0 : Value) (d0 : DataW H) (p0 : List MemPlace) (v1 : Value) (d1 : DataW H) (p1 : List MemPlace) (v2 : Value) (d2 : DataW H) (p2 : List MemPlace) (o0 : Value.okWide Tryz.prog W .any base 9 v0) (h0 : DataW.Trod enc Tryz.prog W 0 (fun _ => true) true 9 v0 d0 p0) (l0 : ∀ x ∈ p0, x.block < W.heap.size) (o1 : Value.okWide Tryz.prog W .any base 22 v1) (h1 : DataW.Trod enc Tryz.prog W 0 (fun _ => true) true 22 v1 d1 p1) (l1 : ∀ x ∈ p1, x.block < W.heap.size) (o2 : Value.okWide Tryz.prog W .any base 9 v2) (h2 : DataW.Trod enc Tryz.prog W 0 (fun _ => true) true 9 v2 d2 p2) (l2 : ∀ x ∈ p2, x.block < W.heap.size) (hz : (DataW.weightsEach Tryz.prog [9, 22, 9] ([d0, d1, d2] : List (DataW H))).all (· ≤ reachBytes) = true) (hk : Rows.uptoBulkAll ([d0, d1, d2] : List (DataW H)) ≤ 1048576) (hL : laidMetH Tryz.prog Rows.noteFreshUptoRow.laid W) (hsh : W.ShapedOpen Tryz.prog) :
    Calls Tryz.prog 3 #[v0, v1, v2] W fun e W' => e = .returned (.bool true) ∧ Below W.heap.size W W' := by
  have hT := utf8_of (laidMet_plain (by kernel_rfl) hL) (by repeat (first | exact List.Mem.head _ | apply List.Mem.tail)) (by repeat (first | exact List.Mem.head _ | apply List.Mem.tail))
  obtain ⟨h1', h2', h3', h4'⟩ := sha_laid (laid := Rows.noteFreshUptoRow.laid) (by kernel_rfl) hL (by repeat (first | exact List.Mem.head _ | apply List.Mem.tail)) (by repeat (first | exact List.Mem.head _ | apply List.Mem.tail)) (by repeat (first | exact List.Mem.head _ | apply List.Mem.tail)) (by repeat (first | exact List.Mem.head _ | apply List.Mem.tail))
  obtain ⟨s, rfl, rfl, -⟩ := Go.ChangeMaps.open_string Tryz.underlying9 o0 h0
  obtain ⟨ks, hV, hw⟩ := open_keys o1 h1
  obtain ⟨s2, rfl, rfl, -⟩ := Go.ChangeMaps.open_string Tryz.underlying9 o2 h2
  simp only [Rows.uptoBulkAll, Rows.uptoBulk, Array.length_toList] at hk
  have hsz : s.data.size = s.size := rfl
  have hsz2 : s2.data.size = s2.size := rfl
  have hlen := keysW_len ks
  exact lawFresh_any s s2 v1 ks W (by omega) (by omega) (fun k hk2 => by have := keysW_mem hk2; omega) (by omega) hV ⟨⟨h1', h2'⟩, ⟨h3', h4'⟩, hT, max_is hsh⟩
end Go.Proofs.YtphoflcilpopgaaGreatDoor

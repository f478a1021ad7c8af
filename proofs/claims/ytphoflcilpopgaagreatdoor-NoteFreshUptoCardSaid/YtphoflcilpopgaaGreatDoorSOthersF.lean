/-
  CONTRACT of the law's others (printed by tools/gen_fresh.py).
-/
import Derived.Test.YtphoflcilpopgaaGreatDoorRows
import Derived.Test.YtphoflcilpopgaaGreatDoorGBase
import Derived.Test.YtphoflcilpopgaaGreatDoorSFreshC
set_option linter.unusedVariables false
set_option linter.unusedSimpArgs false
namespace Go.Proofs.YtphoflcilpopgaaGreatDoor
open Go.RowKit Go.Lib
theorem ownT_strsF {w : World} {base : Nat} {v : Value} {es : List ByteArray} (h : OwnT w base v es) : StrsAt w v es := OwnT.toStrs h
set_option maxRecDepth 100000 in
set_option maxHeartbeats 8000000 in
theorem othersF_any (b text : ByteArray) (v : Value) (ks : List KeyR) (w : World) (hs : b.size ≤ 1048576) (hs2 : text.size ≤ 1048576) (hks : ∀ k ∈ ks, k.nm.size ≤ 1048576 ∧ k.sc.size ≤ 1048576) (hn : ks.length ≤ 1048576) (hV : KeysAt w v ks) (hT : LT w) :
    Calls Tryz.prog 9 #[.string b, v, .string text] w fun e w' => e = .returned (.bool true) ∧ Below w.heap.size w w' := by
  obtain ⟨ttb, ggb, rrb, zzb, hlb, hzb, hOB, hROB⟩ := open_unif b ks v hs hks hn
  obtain ⟨ttt, ggt, rrt, zzt, hlt, hzt, hOT, hROT⟩ := open_unif text ks v hs2 hks hn
  obtain ⟨oob, ppb, nnb, esb, ycb, hcb, hyb, hPB, hRPB⟩ := parse_unif b hs
  obtain ⟨oot, ppt, nnt, est, yct, hct, hyt, hPT, hRPT⟩ := parse_unif text hs2
  have HOB := hide hOB; have HROB := hide hROB; have HOT := hide hOT; have HROT := hide hROT
  have HPB := hide hPB; have HRPB := hide hRPB; have HPT := hide hPT; have HRPT := hide hRPT
  have HKY := hide hV; have HT := hide hT; have HB := hide (Below.refl w.heap.size w)
  clear hOB hROB hOT hROT hPB hRPB hPT hRPT hV hT hks
  go_enter Tryz.func9, Tryz.ntmps9
  go_wp2_with fail
  refine ((unhide HROT) w ((unhide HKY).below (unhide HB)) ((unhide HT).next (unhide HB))).mono ?_
  rintro e1 w1 ⟨⟨XA, Xa, XB, Xb, rfl, hg, hr, hf⟩, hb⟩
  have hb' : Below w.heap.size w (w1.alloc (.cells #[.string ttt, .slice XA ggt.length Xa, .slice XB rrt.length Xb] 25)) := hb.alloc hb.size _
  have HB := hide ((unhide HB).trans (hb'.mono (unhide HB).size))
  have HX := hide (HdO.new (t := ttt) hg hr); clear hg hr hf hb hb'
  go_wp2_with fail
  generalize (w1.alloc (.cells #[.string ttt, .slice XA ggt.length Xa, .slice XB rrt.length Xb] 25)) = v1 at *
  generalize w1.heap.size = mX at *
  refine ((unhide HRPB) v1).mono ?_
  rintro e2 w2 ⟨⟨YA, Ya, rfl, hg⟩, hb⟩
  have hb' : Below v1.heap.size v1 (w2.alloc (.cells #[.string oob, .int .i64 nnb, .string ppb, .slice YA esb.length Ya] 30)) := hb.alloc hb.size _
  have HB := hide ((unhide HB).trans (hb'.mono (unhide HB).size))
  have HX := hide ((unhide HX).low hb')
  have HY := hide (HdC.new (o := oob) (r := ppb) (n := nnb) hg); clear hg hb hb'
  go_wp2_with fail
  generalize (w2.alloc (.cells #[.string oob, .int .i64 nnb, .string ppb, .slice YA esb.length Ya] 30)) = v2 at *
  generalize w2.heap.size = mY at *
  refine ((unhide HROB) v2 ((unhide HKY).below (unhide HB)) ((unhide HT).next (unhide HB))).mono ?_
  rintro e3 w3 ⟨⟨UA, Ua, UB, Ub, rfl, hg, hr, hf⟩, hb⟩
  have hb' : Below v2.heap.size v2 (w3.alloc (.cells #[.string ttb, .slice UA ggb.length Ua, .slice UB rrb.length Ub] 25)) := hb.alloc hb.size _
  have HB := hide ((unhide HB).trans (hb'.mono (unhide HB).size))
  have HX := hide ((unhide HX).low hb')
  have HY := hide ((unhide HY).low hb')
  have HU := hide (HdO.new (t := ttb) hg hr); clear hg hr hf hb hb'
  go_wp2_with fail
  generalize (w3.alloc (.cells #[.string ttb, .slice UA ggb.length Ua, .slice UB rrb.length Ub] 25)) = v3 at *
  generalize w3.heap.size = mU at *
  refine ((unhide HRPT) v3).mono ?_
  rintro e4 w4 ⟨⟨VA, Va, rfl, hg⟩, hb⟩
  have hb' : Below v3.heap.size v3 (w4.alloc (.cells #[.string oot, .int .i64 nnt, .string ppt, .slice VA est.length Va] 30)) := hb.alloc hb.size _
  have HB := hide ((unhide HB).trans (hb'.mono (unhide HB).size))
  have HX := hide ((unhide HX).low hb')
  have HY := hide ((unhide HY).low hb')
  have HU := hide ((unhide HU).low hb')
  have HV := hide (HdC.new (o := oot) (r := ppt) (n := nnt) hg); clear hg hb hb'
  go_wp2_with fail
  generalize (w4.alloc (.cells #[.string oot, .int .i64 nnt, .string ppt, .slice VA est.length Va] 30)) = v4 at *
  generalize w4.heap.size = mV at *
  refine ((unhide HOT) v4 ((unhide HKY).below (unhide HB)) ((unhide HT).next (unhide HB))).mono ?_
  rintro e5 w5 ⟨⟨OA, Oa, OB, Ob, rfl, hg, hr, hf⟩, hb⟩
  have hb' : Below v4.heap.size v4 (w5.alloc (.cells #[.string ttt, .slice OA ggt.length Oa, .slice OB rrt.length Ob] 25)) := hb.alloc hb.size _
  have HB := hide ((unhide HB).trans (hb'.mono (unhide HB).size))
  have HX := hide ((unhide HX).low hb')
  have HY := hide ((unhide HY).low hb')
  have HU := hide ((unhide HU).low hb')
  have HV := hide ((unhide HV).low hb')
  have HO := hide (HdO.new (t := ttt) hg hr); clear hg hr hf hb hb'
  go_wp2_with fail
  generalize (w5.alloc (.cells #[.string ttt, .slice OA ggt.length Oa, .slice OB rrt.length Ob] 25)) = v5 at *
  generalize w5.heap.size = mO at *
  refine ((unhide HOT) v5 ((unhide HKY).below (unhide HB)) ((unhide HT).next (unhide HB))).mono ?_
  rintro e6 w6 ⟨⟨PA, Pa, PB, Pb, rfl, hg, hr, hf⟩, hb⟩
  have hb' : Below v5.heap.size v5 (w6.alloc (.cells #[.string ttt, .slice PA ggt.length Pa, .slice PB rrt.length Pb] 25)) := hb.alloc hb.size _
  have HB := hide ((unhide HB).trans (hb'.mono (unhide HB).size))
  have HX := hide ((unhide HX).low hb')
  have HY := hide ((unhide HY).low hb')
  have HU := hide ((unhide HU).low hb')
  have HV := hide ((unhide HV).low hb')
  have HO := hide ((unhide HO).low hb')
  have HP := hide (HdO.new (t := ttt) hg hr); clear hg hr hf hb hb'
  go_wp2_with fail
  generalize (w6.alloc (.cells #[.string ttt, .slice PA ggt.length Pa, .slice PB rrt.length Pb] 25)) = v6 at *
  generalize w6.heap.size = mP at *
  refine ((unhide HPB) v6 ((unhide HT).next (unhide HB))).mono ?_
  rintro e7 w7 ⟨⟨CA, Ca, rfl, hg⟩, hb⟩
  have hb' : Below v6.heap.size v6 (w7.alloc (.cells #[.string oob, .int .i64 nnb, .string ppb, .slice CA esb.length Ca] 30)) := hb.alloc hb.size _
  have HB := hide ((unhide HB).trans (hb'.mono (unhide HB).size))
  have HX := hide ((unhide HX).low hb')
  have HY := hide ((unhide HY).low hb')
  have HU := hide ((unhide HU).low hb')
  have HV := hide ((unhide HV).low hb')
  have HO := hide ((unhide HO).low hb')
  have HP := hide ((unhide HP).low hb')
  have HC := hide (HdC.new (o := oob) (r := ppb) (n := nnb) hg); clear hg hb hb'
  go_wp2_with fail
  generalize (w7.alloc (.cells #[.string oob, .int .i64 nnb, .string ppb, .slice CA esb.length Ca] 30)) = v7 at *
  generalize w7.heap.size = mC at *
  refine ((unhide HPB) v7 ((unhide HT).next (unhide HB))).mono ?_
  rintro e8 w8 ⟨⟨KA, Ka, rfl, hg⟩, hb⟩
  have hb' : Below v7.heap.size v7 (w8.alloc (.cells #[.string oob, .int .i64 nnb, .string ppb, .slice KA esb.length Ka] 30)) := hb.alloc hb.size _
  have HB := hide ((unhide HB).trans (hb'.mono (unhide HB).size))
  have HX := hide ((unhide HX).low hb')
  have HY := hide ((unhide HY).low hb')
  have HU := hide ((unhide HU).low hb')
  have HV := hide ((unhide HV).low hb')
  have HO := hide ((unhide HO).low hb')
  have HP := hide ((unhide HP).low hb')
  have HC := hide ((unhide HC).low hb')
  have HK := hide (HdC.new (o := oob) (r := ppb) (n := nnb) hg); clear hg hb hb'
  go_wp2_with fail
  generalize (w8.alloc (.cells #[.string oob, .int .i64 nnb, .string ppb, .slice KA esb.length Ka] 30)) = v8 at *
  generalize w8.heap.size = mK at *
  refine ((unhide HOB) v8 ((unhide HKY).below (unhide HB)) ((unhide HT).next (unhide HB))).mono ?_
  rintro e9 w9 ⟨⟨QA, Qa, QB, Qb, rfl, hg, hr, hf⟩, hb⟩
  have hb' : Below v8.heap.size v8 (w9.alloc (.cells #[.string ttb, .slice QA ggb.length Qa, .slice QB rrb.length Qb] 25)) := hb.alloc hb.size _
  have HB := hide ((unhide HB).trans (hb'.mono (unhide HB).size))
  have HX := hide ((unhide HX).low hb')
  have HY := hide ((unhide HY).low hb')
  have HU := hide ((unhide HU).low hb')
  have HV := hide ((unhide HV).low hb')
  have HO := hide ((unhide HO).low hb')
  have HP := hide ((unhide HP).low hb')
  have HC := hide ((unhide HC).low hb')
  have HK := hide ((unhide HK).low hb')
  have HQ := hide (HdO.new (t := ttb) hg hr); clear hg hr hf hb hb'
  go_wp2_with fail
  generalize (w9.alloc (.cells #[.string ttb, .slice QA ggb.length Qa, .slice QB rrb.length Qb] 25)) = v9 at *
  generalize w9.heap.size = mQ at *
  refine ((unhide HPT) v9 ((unhide HT).next (unhide HB))).mono ?_
  rintro e10 w10 ⟨⟨MA, Ma, rfl, hg⟩, hb⟩
  have hb' : Below v9.heap.size v9 (w10.alloc (.cells #[.string oot, .int .i64 nnt, .string ppt, .slice MA est.length Ma] 30)) := hb.alloc hb.size _
  have HB := hide ((unhide HB).trans (hb'.mono (unhide HB).size))
  have HX := hide ((unhide HX).low hb')
  have HY := hide ((unhide HY).low hb')
  have HU := hide ((unhide HU).low hb')
  have HV := hide ((unhide HV).low hb')
  have HO := hide ((unhide HO).low hb')
  have HP := hide ((unhide HP).low hb')
  have HC := hide ((unhide HC).low hb')
  have HK := hide ((unhide HK).low hb')
  have HQ := hide ((unhide HQ).low hb')
  have HM := hide (HdC.new (o := oot) (r := ppt) (n := nnt) hg); clear hg hb hb'
  generalize hv10 : (w10.alloc (.cells #[.string oot, .int .i64 nnt, .string ppt, .slice MA est.length Ma] 30)) = v10 at HB HX HY HU HV HO HP HC HK HQ HM
  have O0 := (unhide HO).1.cell 0; have O1 := (unhide HO).1.cell 1; have O2 := (unhide HO).1.cell 2
  simp only [List.getElem?_toArray, List.getElem?_cons_zero, List.getElem?_cons_succ] at O0 O1 O2
  have X0 := (unhide HX).1.cell 0; have X1 := (unhide HX).1.cell 1; have X2 := (unhide HX).1.cell 2
  simp only [List.getElem?_toArray, List.getElem?_cons_zero, List.getElem?_cons_succ] at X0 X1 X2
  go_wp2_with fail
  clear hv10
  refine (opened_eq ttt _ _ _ _ ggt rrt v10 _ _ _ _ (by omega) (by omega) (unhide HO).2.1 (unhide HO).2.2 (unhide HX).2.1 (unhide HX).2.2).mono ?_
  rintro f0 u0 ⟨rfl, hb⟩
  have HB := hide ((unhide HB).trans (hb.mono (unhide HB).size))
  have HC := hide ((unhide HC).low hb)
  have HK := hide ((unhide HK).low hb)
  have HM := hide ((unhide HM).low hb)
  have HP := hide ((unhide HP).low hb)
  have HQ := hide ((unhide HQ).low hb)
  have HU := hide ((unhide HU).low hb)
  have HV := hide ((unhide HV).low hb)
  have HX := hide ((unhide HX).low hb)
  have HY := hide ((unhide HY).low hb)
  clear hb O0 O1 O2 X0 X1 X2
  have P0 := (unhide HP).1.cell 0; have P1 := (unhide HP).1.cell 1; have P2 := (unhide HP).1.cell 2
  simp only [List.getElem?_toArray, List.getElem?_cons_zero, List.getElem?_cons_succ] at P0 P1 P2
  have X0 := (unhide HX).1.cell 0; have X1 := (unhide HX).1.cell 1; have X2 := (unhide HX).1.cell 2
  simp only [List.getElem?_toArray, List.getElem?_cons_zero, List.getElem?_cons_succ] at X0 X1 X2
  go_wp2_with fail
  refine (opened_eq ttt _ _ _ _ ggt rrt u0 _ _ _ _ (by omega) (by omega) (unhide HP).2.1 (unhide HP).2.2 (unhide HX).2.1 (unhide HX).2.2).mono ?_
  rintro f1 u1 ⟨rfl, hb⟩
  have HB := hide ((unhide HB).trans (hb.mono (unhide HB).size))
  have HC := hide ((unhide HC).low hb)
  have HK := hide ((unhide HK).low hb)
  have HM := hide ((unhide HM).low hb)
  have HQ := hide ((unhide HQ).low hb)
  have HU := hide ((unhide HU).low hb)
  have HV := hide ((unhide HV).low hb)
  have HY := hide ((unhide HY).low hb)
  clear hb P0 P1 P2 X0 X1 X2
  have C0 := (unhide HC).1.cell 0; have C1 := (unhide HC).1.cell 1; have C2 := (unhide HC).1.cell 2; have C3 := (unhide HC).1.cell 3
  simp only [List.getElem?_toArray, List.getElem?_cons_zero, List.getElem?_cons_succ] at C0 C1 C2 C3
  have Y0 := (unhide HY).1.cell 0; have Y1 := (unhide HY).1.cell 1; have Y2 := (unhide HY).1.cell 2; have Y3 := (unhide HY).1.cell 3
  simp only [List.getElem?_toArray, List.getElem?_cons_zero, List.getElem?_cons_succ] at Y0 Y1 Y2 Y3
  go_wp2_with fail
  refine (alikeF_any oob ppb nnb _ _ esb u1 (by omega) (ownT_strsF (unhide HC).2) (ownT_strsF (unhide HY).2)).mono ?_
  rintro f2 u2 ⟨rfl, hb⟩
  have HB := hide ((unhide HB).trans (hb.mono (unhide HB).size))
  have HK := hide ((unhide HK).low hb)
  have HM := hide ((unhide HM).low hb)
  have HQ := hide ((unhide HQ).low hb)
  have HU := hide ((unhide HU).low hb)
  have HV := hide ((unhide HV).low hb)
  have HY := hide ((unhide HY).low hb)
  clear hb C0 C1 C2 C3 Y0 Y1 Y2 Y3
  have K0 := (unhide HK).1.cell 0; have K1 := (unhide HK).1.cell 1; have K2 := (unhide HK).1.cell 2; have K3 := (unhide HK).1.cell 3
  simp only [List.getElem?_toArray, List.getElem?_cons_zero, List.getElem?_cons_succ] at K0 K1 K2 K3
  have Y0 := (unhide HY).1.cell 0; have Y1 := (unhide HY).1.cell 1; have Y2 := (unhide HY).1.cell 2; have Y3 := (unhide HY).1.cell 3
  simp only [List.getElem?_toArray, List.getElem?_cons_zero, List.getElem?_cons_succ] at Y0 Y1 Y2 Y3
  go_wp2_with fail
  refine (alikeF_any oob ppb nnb _ _ esb u2 (by omega) (ownT_strsF (unhide HK).2) (ownT_strsF (unhide HY).2)).mono ?_
  rintro f3 u3 ⟨rfl, hb⟩
  have HB := hide ((unhide HB).trans (hb.mono (unhide HB).size))
  have HM := hide ((unhide HM).low hb)
  have HQ := hide ((unhide HQ).low hb)
  have HU := hide ((unhide HU).low hb)
  have HV := hide ((unhide HV).low hb)
  clear hb K0 K1 K2 K3 Y0 Y1 Y2 Y3
  have Q0 := (unhide HQ).1.cell 0; have Q1 := (unhide HQ).1.cell 1; have Q2 := (unhide HQ).1.cell 2
  simp only [List.getElem?_toArray, List.getElem?_cons_zero, List.getElem?_cons_succ] at Q0 Q1 Q2
  have U0 := (unhide HU).1.cell 0; have U1 := (unhide HU).1.cell 1; have U2 := (unhide HU).1.cell 2
  simp only [List.getElem?_toArray, List.getElem?_cons_zero, List.getElem?_cons_succ] at U0 U1 U2
  go_wp2_with fail
  refine (opened_eq ttb _ _ _ _ ggb rrb u3 _ _ _ _ (by omega) (by omega) (unhide HQ).2.1 (unhide HQ).2.2 (unhide HU).2.1 (unhide HU).2.2).mono ?_
  rintro f4 u4 ⟨rfl, hb⟩
  have HB := hide ((unhide HB).trans (hb.mono (unhide HB).size))
  have HM := hide ((unhide HM).low hb)
  have HV := hide ((unhide HV).low hb)
  clear hb Q0 Q1 Q2 U0 U1 U2
  have M0 := (unhide HM).1.cell 0; have M1 := (unhide HM).1.cell 1; have M2 := (unhide HM).1.cell 2; have M3 := (unhide HM).1.cell 3
  simp only [List.getElem?_toArray, List.getElem?_cons_zero, List.getElem?_cons_succ] at M0 M1 M2 M3
  have V0 := (unhide HV).1.cell 0; have V1 := (unhide HV).1.cell 1; have V2 := (unhide HV).1.cell 2; have V3 := (unhide HV).1.cell 3
  simp only [List.getElem?_toArray, List.getElem?_cons_zero, List.getElem?_cons_succ] at V0 V1 V2 V3
  go_wp2_with fail
  refine (alikeF_any oot ppt nnt _ _ est u4 (by omega) (ownT_strsF (unhide HM).2) (ownT_strsF (unhide HV).2)).mono ?_
  rintro f5 u5 ⟨rfl, hb⟩
  have HB := hide ((unhide HB).trans (hb.mono (unhide HB).size))
  clear hb M0 M1 M2 M3 V0 V1 V2 V3
  go_wp2_with fail
  go_ret
  exact ⟨rfl, unhide HB⟩
end Go.Proofs.YtphoflcilpopgaaGreatDoor

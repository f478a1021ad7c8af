/-
  CONTRACT of the document's Open.
-/
import Derived.Test.YtphoflcilpopgaaGreatDoorRows
import Derived.StillTailTactics
import Derived.Deep.RegionLaw
import Derived.Deep.RegionHeld3
import Derived.Deep.DeepMust
import Derived.Outline
import Derived.Test.YtphoflcilpopgaaGreatDoorGBase
import Derived.Test.YtphoflcilpopgaaGreatDoorSRRead
import Derived.Test.YtphoflcilpopgaaGreatDoorSOwner
import Derived.Test.YtphoflcilpopgaaGreatDoorGOp
import Derived.Test.YtphoflcilpopgaaGreatDoorGMacs
import Derived.Test.YtphoflcilpopgaaGreatDoorGDecs
set_option linter.unusedVariables false
set_option linter.unusedSimpArgs false
namespace Go.Proofs.YtphoflcilpopgaaGreatDoor
open Go.RowKit Go.Lib
set_option maxRecDepth 100000 in
set_option maxHeartbeats 4000000 in
theorem ropen_any (note : ByteArray) (v : Value) (ks : List KeyR) (w : World) (hs : note.size ≤ 1099511627776) (hks : ∀ k ∈ ks, k.nm.size ≤ 1099511627776 ∧ k.sc.size ≤ 1099511627776) (hn : ks.length ≤ 1099511627776) (hV : KeysAt w v ks) (hT : RTab w) :
    Calls Tryz.prog 4 #[.string note, v] w fun e w' => OpenR w.heap.size note ks e w' ∧ Below w.heap.size w w' := by
  obtain ⟨A, c, rfl, -⟩ := id hV
  have hb0 : Below w.heap.size w (w.alloc (.cells #[.string ⟨#[]⟩, .slice none 0 0, .slice none 0 0] 25)) := (Below.refl _ _).alloc (Nat.le_refl _) _
  have hN0 : Blk (w.alloc (.cells #[.string ⟨#[]⟩, .slice none 0 0, .slice none 0 0] 25)) w.heap.size 25 #[.string ⟨#[]⟩, .slice none 0 0, .slice none 0 0] := Blk.new _ _ _
  have hrd := rread_any note (w.alloc (.cells #[.string ⟨#[]⟩, .slice none 0 0, .slice none 0 0] 25)) hs
  have HKS := hide hks; have HV := hide hV; have HT := hide hT; have HRD := hide hrd; have H0 := hide (And.intro hb0 hN0); clear hks hV hT hrd hb0 hN0
  go_enter Tryz.func4, Tryz.ntmps4
  go_wp2_with fail
  refine (unhide HRD).mono ?_
  rintro e w1 ⟨hR, hb1⟩
  have hN1 := (unhide H0).2.below hb1 (unhide H0).2.lt
  have hb1' := (unhide H0).1.trans (hb1.mono (unhide H0).1.size)
  rw [World.size_alloc] at hR
  have H1 := hide (And.intro hN1 hb1')
  clear hb1 hb1' HRD H0
  rcases hR with ⟨h6, rfl⟩ | ⟨h6, hrv, rfl⟩ | ⟨h6, t, S, vs, hrv, rfl, hO⟩
  · have hres : Hid (openV note ks = .error 121) := by unfold openV; rw [Hid, if_pos h6]
    have c0 := hN1.cell 0; have c1 := hN1.cell 1; have c2 := hN1.cell 2; have f0 := hN1.frozen 0; have f1 := hN1.frozen 1; have f2 := hN1.frozen 2
    simp only [List.getElem?_toArray, List.getElem?_cons_zero, List.getElem?_cons_succ] at c0 c1 c2
    clear hN1 h6
    go_wp2_with fail
    (try simp only [Exit.inBlock, Exit.then])
    refine bodyPost_ret (results_opened rfl _ _ w.heap.size _ _ _ rfl (blk3_store (unhide H1).1 (.string ⟨#[]⟩) (.slice none 0 0) (.slice none 0 0))) rfl ?_
    exact ⟨OpenR.err 121 hres.out, below3_store (unhide H1).2 (Nat.le_refl _) _ _ _⟩
  · have hres : Hid (openV note ks = .error 200) := by unfold openV; rw [Hid, if_neg (by omega), hrv]
    have c0 := hN1.cell 0; have c1 := hN1.cell 1; have c2 := hN1.cell 2; have f0 := hN1.frozen 0; have f1 := hN1.frozen 1; have f2 := hN1.frozen 2
    simp only [List.getElem?_toArray, List.getElem?_cons_zero, List.getElem?_cons_succ] at c0 c1 c2
    clear hN1 hrv
    go_wp2_with fail
    (try simp only [Exit.inBlock, Exit.then])
    refine bodyPost_ret (results_opened rfl _ _ w.heap.size _ _ _ rfl (blk3_store (unhide H1).1 (.string ⟨#[]⟩) (.slice none 0 0) (.slice none 0 0))) rfl ?_
    exact ⟨OpenR.err 200 hres.out, below3_store (unhide H1).2 (Nat.le_refl _) _ _ _⟩
  · obtain ⟨hsok, hS1, hS16, hgt, htz⟩ := readV_ok hrv
    have hov := Lib.hid (openV_read (ks := ks) h6 hrv)
    obtain ⟨As, cs, rfl⟩ := hO.slice
    have hlt1 := hN1.lt
    have HS := hide hsok; have HO := hide hO
    clear hN1 hrv hsok hgt hO
    go_wp2_with fail
    have hB0 : OpB w (w1.alloc (.cells #[.string t, .slice none 0 0, .slice none 0 0] 25)) w.heap.size w1.heap.size [.string ⟨#[]⟩, .slice none 0 0, .slice none 0 0] t (.slice none 0 0) (.slice none 0 0) (.slice As S.length cs) [] [] S :=
      ⟨(unhide H1).1.alloc _, Blk.new _ _ _, OwnG.nil _ _, OwnG.nil _ _, (unhide HO).alloc _, fun k h => by simp [Value.ownBlock] at h, fun k h => by simp [Value.ownBlock] at h, fun k h => by simp [Value.ownBlock] at h, (unhide H1).2.alloc (unhide H1).2.size _, hlt1⟩
    generalize w1.heap.size = M at *
    generalize (w1.alloc (.cells #[.string t, .slice none 0 0, .slice none 0 0] 25)) = w2 at *
    have HB0 := hide hB0; clear hB0 H1 HO
    go_loopw [10] (fun i wr => ∃ (k : Nat) (g r : List SigR) (vg vr : Value), k ≤ S.length ∧ i = .int .i64 k ∧ Hid (openG t ks (S.drop k) g r = openG t ks S [] []) ∧ g.length ≤ k ∧ r.length ≤ k ∧ OpB w wr w.heap.size M [.string ⟨#[]⟩, .slice none 0 0, .slice none 0 0] t vg vr (.slice As S.length cs) g r S) (fun i _ => S.length - (RowKit.intOf i).toNat)
    case atStart => exact ⟨0, [], [], _, _, by omega, rfl, Lib.hid rfl, by simp, by simp, unhide HB0⟩
    case round =>
      clear HB0
      obtain ⟨k, g, r, vg, vr, hk, rfl, hI, hgl, hrl, hB⟩ := hrel
      obtain ⟨Ag, cg, rfl⟩ := hB.og.slice
      obtain ⟨Ar, cr, rfl⟩ := hB.or.slice
      rcases Nat.lt_or_ge k S.length with hlt | hge
      · obtain ⟨gS, rfl⟩ : ∃ gS, As = some ⟨gS, 0, none⟩ := by
          rcases hB.os.form with ⟨h1, h2⟩ | ⟨gg, cap, h1, -⟩
          · rw [h2] at hlt; simp at hlt
          · injection h1 with e1 _ _
            exact ⟨gg, e1⟩
        have hxok := unhide HS _ (List.getElem_mem hlt)
        have hst := Lib.hid (openG_step (t := t) (ks := ks) (g := g) (r := r) hlt)
        have hk2 : (k : Int) < (S.length : Int) := by omega
        have hcs : ∀ W, OwnG W (w.heap.size + 1) (.slice (some ⟨gS, 0, none⟩) S.length cs) S → W.cell? ⟨gS, k * 3, none⟩ = some (.string S[k].nm) ∧ W.cell? ⟨gS, k * 3 + 1, none⟩ = some (.string S[k].id) ∧ W.cell? ⟨gS, k * 3 + 2, none⟩ = some (.string S[k].mc) := fun W h => ⟨h.cell k 0 hlt (by omega), h.cell k 1 hlt (by omega), h.cell k 2 hlt (by omega)⟩
        generalize S[k] = x at *
        obtain ⟨xn, xi, xm⟩ := x
        simp only at hcs
        obtain ⟨c0, c1, c2⟩ := hcs wr hB.os
        have how := rowner_any (.slice A ks.length c) ks ⟨xn, xi, xm⟩ wr (unhide HKS) hn ((unhide HV).below hB.below) ((unhide HT).next hB.below)
        unfold sigV at how
        have HOW := hide how; have H1 := hide hB; have HXO := hide hxok; have HCS := hide hcs
        clear how hB hxok hcs
        rcases ownerI_at ⟨xn, xi, xm⟩ ks 0 with ⟨hof, hoi⟩ | ⟨j, hj, hof, hoi⟩
        · have hnx : Hid (openG t ks (S.drop (k + 1)) g (r ++ [⟨xn, xi, xm⟩]) = openG t ks S [] []) := by rw [Hid, ← hI.out, hst.out, hof]
          rw [hoi] at HOW
          clear hof hoi hst hI
          go_wp2_with fail
          clear c0 c1 c2
          refine (unhide HOW).mono ?_
          rintro e w4 ⟨rfl, hb4⟩
          have hB4 := (unhide H1).next hb4
          have hzM := hB4.b1.lt; have hzN := hB4.b0.lt
          have m1 := hB4.b1.cell 1; have m2 := hB4.b1.cell 2
          simp only [List.getElem?_toArray, List.getElem?_cons_zero, List.getElem?_cons_succ] at m1 m2
          obtain ⟨c0, c1, c2⟩ := unhide HCS _ hB4.os
          have H5 := hide hB4
          clear hB4 hb4 H1 HOW
          go_wp2_with fail
          go_region_law (first | (refine step_appG1 w4.drew w4.heap.size rfl rfl _ _ rfl (y := ⟨xn, xi, xm⟩) (unhide H5).or.drew rfl rfl (by omega) (by omega) ?_; intro v6 w6 hO6 hg6 hat6; obtain ⟨A6, cp6, rfl⟩ := hO6.slice; have hap := (unhide H5).drew.rest hg6 hO6 hat6; have c56 := hap.1.cell 2; have f56 := hap.1.frozen 2; simp only [List.getElem?_toArray, List.getElem?_cons_zero, List.getElem?_cons_succ] at c56; have HAP := hide hap; clear hO6 hg6 hat6 hap))
          all_goals
            have hap2 := (unhide HAP).2
            simp only [List.length_append, List.length_cons, List.length_nil, Nat.zero_add] at hap2
            clear c56 f56 m1 m2 c0 c1 c2
            go_wp2_with fail
            go_roundw
            case rel => exact ⟨k + 1, g, r ++ [⟨xn, xi, xm⟩], _, _, by omega, by go_num, hnx, by omega, by simp; omega, hap2⟩
            case measure => simp [RowKit.intOf]; omega
        · have hst2 : Hid (openG t ks S [] [] = if xm = macB ks[j].sc t then openG t ks (S.drop (k + 1)) (g ++ [⟨xn, xi, xm⟩]) r else none) := by rw [Hid, ← hI.out, hst.out, hof]
          have hyk := unhide HKS _ (List.getElem_mem hj)
          rw [hoi, Nat.zero_add] at HOW
          have hkc : ∀ W, KeysAt W (.slice A ks.length c) ks → ∃ a : Addr, A = some a ∧ W.cell? (a.add (j * 2)) = some (.string ks[j].nm) ∧ W.cell? ⟨(a.add (j * 2)).block, (a.add (j * 2)).off + 1, none⟩ = some (.string ks[j].sc) := fun W h => h.at_ j hj
          have hsum : ∀ W, RTab W → Calls Tryz.prog 14 #[.string ks[j].sc, .string t] W fun e w' => e = .returned (.string (macB ks[j].sc t)) ∧ Below W.heap.size W w' := fun W h => rmac_any ks[j].sc t W (by omega) (by omega) h.1 h.2
          have hj2 : (j : Int) < (ks.length : Int) := by omega
          generalize ks[j] = key at *
          obtain ⟨yn, ysc⟩ := key
          simp only at hkc hsum hst2
          have HKC := hide hkc; have HSUM := hide hsum
          clear hof hoi hst hI hkc hsum hyk
          go_wp2_with fail
          clear c0 c1 c2
          refine (unhide HOW).mono ?_
          rintro e w4 ⟨rfl, hb4⟩
          have hB4 := (unhide H1).next hb4
          obtain ⟨a, rfl, q0, q1⟩ := unhide HKC w4 ((unhide HV).below hB4.below)
          have hT4 := (unhide HT).next hB4.below
          have H5 := hide (And.intro hB4 hT4)
          clear hB4 hb4 hT4 H1 HOW q0
          have hj3 : ¬ (j : Int) < 0 := by omega
          go_wp2_with fail
          refine ((unhide HSUM) _ (unhide H5).2).mono ?_
          rintro e w6 ⟨rfl, hb6⟩
          have hB6 := (unhide H5).1.next hb6
          obtain ⟨c0, c1, c2⟩ := unhide HCS _ hB6.os
          clear q1
          by_cases hmc : xm = macB ysc t
          · have hnx : Hid (openG t ks (S.drop (k + 1)) (g ++ [⟨xn, xi, xm⟩]) r = openG t ks S [] []) := by rw [Hid, hst2.out, if_pos hmc]
            rw [← hmc]
            clear hst2 hmc HSUM
            have hzM := hB6.b1.lt; have hzN := hB6.b0.lt
            have m1 := hB6.b1.cell 1; have m2 := hB6.b1.cell 2
            simp only [List.getElem?_toArray, List.getElem?_cons_zero, List.getElem?_cons_succ] at m1 m2
            have H6 := hide hB6
            clear hB6 hb6 H5
            go_wp2_with fail
            go_region_law (first | (refine step_appG1 w6.drew w6.heap.size rfl rfl _ _ rfl (y := ⟨xn, xi, xm⟩) (unhide H6).og.drew rfl rfl (by omega) (by omega) ?_; intro v8 w8 hO8 hg8 hat8; obtain ⟨A8, cp8, rfl⟩ := hO8.slice; have hap := (unhide H6).drew.good hg8 hO8 hat8; have c56 := hap.1.cell 1; have f56 := hap.1.frozen 1; simp only [List.getElem?_toArray, List.getElem?_cons_zero, List.getElem?_cons_succ] at c56; have HAP := hide hap; clear hO8 hg8 hat8 hap))
            all_goals
              have hap2 := (unhide HAP).2
              simp only [List.length_append, List.length_cons, List.length_nil, Nat.zero_add] at hap2
              clear c56 f56 m1 m2 c0 c1 c2
              go_wp2_with fail
              go_roundw
              case rel => exact ⟨k + 1, g ++ [⟨xn, xi, xm⟩], r, _, _, by omega, by go_num, hnx, by simp; omega, by omega, hap2⟩
              case measure => simp [RowKit.intOf]; omega
          · have hres : Hid (openV note ks = .error 201) := by rw [Hid, hov.out, hst2.out, if_neg hmc]
            have hne : ((macB ysc t).toList == xm.toList) = false := toList_ne (fun e => hmc e.symm)
            clear hst2 hmc hov HSUM
            generalize macB ysc t = mb at *
            have n0 := hB6.b0.cell 0; have n1 := hB6.b0.cell 1; have n2 := hB6.b0.cell 2; have f0 := hB6.b0.frozen 0; have f1 := hB6.b0.frozen 1; have f2 := hB6.b0.frozen 2
            simp only [List.getElem?_toArray, List.getElem?_cons_zero, List.getElem?_cons_succ] at n0 n1 n2
            have H6 := hide hB6
            clear hB6 hb6 H5
            go_wp2_with fail
            (try simp only [Exit.inBlock, Exit.then])
            refine bodyPost_ret (results_opened rfl _ _ w.heap.size _ _ _ rfl (blk3_store (unhide H6).b0 (.string ⟨#[]⟩) (.slice none 0 0) (.slice none 0 0))) rfl ?_
            exact ⟨OpenR.err 201 hres.out, below3_store (unhide H6).below (Nat.le_refl _) _ _ _⟩
      · have hk2 : ¬ (k : Int) < (S.length : Int) := by omega
        have hov2 : Hid (openV note ks = if g.length = 0 then .error 202 else .ok (t, g, r)) := by
          rw [Hid, hov.out, ← hI.out, List.drop_eq_nil_of_le hge]; rfl
        have m0 := hB.b1.cell 0; have m1 := hB.b1.cell 1; have m2 := hB.b1.cell 2
        have n0 := hB.b0.cell 0; have n1 := hB.b0.cell 1; have n2 := hB.b0.cell 2; have f0 := hB.b0.frozen 0; have f1 := hB.b0.frozen 1; have f2 := hB.b0.frozen 2
        simp only [List.getElem?_toArray, List.getElem?_cons_zero, List.getElem?_cons_succ] at m0 m1 m2 n0 n1 n2
        have HB := hide hB
        clear hI hov hB
        by_cases hg0 : g.length = 0
        · have hres : Hid (openV note ks = .error 202) := by rw [Hid, hov2.out, if_pos hg0]
          have h0' : ((g.length : Int) == 0) = true := by rw [hg0]; rfl
          clear hov2 hg0
          go_wp2_with fail
          (try simp only [Exit.inBlock, Exit.then])
          refine bodyPost_ret (results_opened rfl _ _ w.heap.size _ _ _ rfl (blk3_store (unhide HB).b0 (.string ⟨#[]⟩) (.slice none 0 0) (.slice none 0 0))) rfl ?_
          exact ⟨OpenR.err 202 hres.out, below3_store (unhide HB).below (Nat.le_refl _) _ _ _⟩
        · have hres : Hid (openV note ks = .ok (t, g, r)) := by rw [Hid, hov2.out, if_neg hg0]
          have h0' : ((g.length : Int) == 0) = false := by rw [beq_eq_false_iff_ne]; omega
          clear hov2 hg0
          go_wp2_with fail
          (try simp only [Exit.inBlock, Exit.then])
          refine bodyPost_ret (results_opened rfl _ _ w.heap.size _ _ _ rfl (blk3_store (unhide HB).b0 (.string t) (.slice Ag g.length cg) (.slice Ar r.length cr))) rfl ?_
          refine ⟨OpenR.ok hres.out ?_ ?_ (unhide HB).gr, below3_store (unhide HB).below (Nat.le_refl _) _ _ _⟩
          · exact (((((unhide HB).og.far (by simp) _).far (by simp) _).far (by simp) _).mono (by omega))
          · exact (((((unhide HB).or.far (by simp) _).far (by simp) _).far (by simp) _).mono (by omega))
end Go.Proofs.YtphoflcilpopgaaGreatDoor

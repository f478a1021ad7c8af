/-
  THE WALK of the law NoteOnly.
-/
import Derived.Test.YtfhaoamlagnpjaaDoorRows
import Derived.Test.YtfhaoamlagnpjaaDoorGBase
import Derived.Test.YtfhaoamlagnpjaaDoorSWNoteBack
import Derived.Test.YtfhaoamlagnpjaaDoorSOnlyP
import Derived.Test.YtfhaoamlagnpjaaDoorSOwned
import Derived.Test.YtfhaoamlagnpjaaDoorSMerged
set_option linter.unusedVariables false
set_option linter.unusedSimpArgs false
namespace Go.Proofs.YtfhaoamlagnpjaaDoor
open Go.RowKit Go.Lib
theorem openV_no {s : ByteArray} {ks : List KeyR} {n : Nat} (h : openV s ks = .error n) : n < 1000 ∧ n ≠ 0 := by
  unfold openV at h
  split at h
  · injection h with h; omega
  · split at h
    · injection h with h; omega
    · split at h
      · injection h with h; omega
      · split at h
        · injection h with h; omega
        · cases h
theorem ownedF_mine {t : ByteArray} {ks : List KeyR} {x : SigR} (h : Mine t ks x) : ownedF t ks x = true := by
  obtain ⟨i, hi, h1, h2, h3⟩ := h.key
  unfold ownedF madeBy
  exact List.any_eq_true.2 ⟨ks[i], List.getElem_mem hi, by simp [h1, h2, h3]⟩
set_option maxRecDepth 100000 in
set_option maxHeartbeats 4000000 in
theorem lawOnly_any (s : ByteArray) (v : Value) (ks : List KeyR) (w : World) (hs : s.size ≤ 1048576) (hks : ∀ k ∈ ks, k.nm.size ≤ 1048576 ∧ k.sc.size ≤ 1048576) (hn : ks.length ≤ 1048576) (hV : KeysAt w v ks) (hP : PTab w) (hU : Lib.Utf8Tabs 3 4 w) (hM : MaxOk w) :
    Calls Tryd.prog 11 #[.string s, v] w fun e W' => e = .returned (.bool true) ∧ Below w.heap.size w W' := by
  have hbk := lawBack_any s v ks 1 0 w hs hks hn hV hP hU hM
  have hk2 : ∀ k ∈ ks, k.nm.size ≤ 1099511627776 ∧ k.sc.size ≤ 1099511627776 := fun k hk => by have := hks k hk; omega
  obtain ⟨A, c, rfl, -⟩ := id hV
  have HBK := hide hbk; have HV := hide (And.intro hV (And.intro hP (And.intro hU hM))); have HKS := hide hk2; clear hbk hV hP hU hM hk2 hks
  go_enter Tryd.func11, Tryd.ntmps11
  go_wp2_with fail
  refine (unhide HBK).mono ?_
  rintro e w1 ⟨rfl, hb1⟩
  obtain ⟨hV, hP, hU, hM⟩ := unhide HV
  have hV1 := hV.below hb1; have hP1 := hP.next hb1; have hU1 := Tabs.below hU hb1 (Tabs.lt3 hU) (Tabs.lt4 hU); have hM1 := hM.below hb1 hM.lt
  have hop := open_any s (.slice A ks.length c) ks w1 (by omega) (unhide HKS) (by omega) hV1 hP1 hU1 hM1
  have HOP := hide hop; have H1 := hide (And.intro hb1 (And.intro hV1 hP1)); clear hop hb1 hV1 hP1 hU1 hM1 hV hP hU hM HBK
  go_wp2_with fail
  refine (unhide HOP).mono ?_
  rintro e w2 ⟨hR, hb2⟩
  unfold OpenR at hR
  split at hR
  · rename_i n hn
    subst hR
    obtain ⟨n1, n2⟩ := openV_no hn
    have hw2 := ((unhide H1).1.trans (hb2.mono (unhide H1).1.size)).alloc (Nat.le_trans (unhide H1).1.size hb2.size) (.cells #[.string ⟨#[]⟩, .slice none 0 0, .slice none 0 0] 53)
    have H2 := hide hw2; clear hw2 hb2 HOP H1
    go_wp2_with fail
    refine (numl_any n _ n1).mono ?_
    rintro e w3 ⟨rfl, hw3⟩
    have hN := Blk.new w2 53 #[.string ⟨#[]⟩, .slice none 0 0, .slice none 0 0]
    generalize w2.heap.size = g2 at *
    generalize (w2.alloc (.cells #[.string ⟨#[]⟩, .slice none 0 0, .slice none 0 0] 53)) = w2' at *
    subst hw3
    have m0 := hN.cell 0; have m1 := hN.cell 1; have m2 := hN.cell 2
    simp only [List.getElem?_toArray, List.getElem?_cons_zero, List.getElem?_cons_succ] at m0 m1 m2
    have hnz : ((n : Int) == 0) = false := by rw [beq_eq_false_iff_ne]; omega
    clear hN
    go_wp2_with fail
    go_ret
    exact ⟨rfl, unhide H2⟩
  · rename_i t g r hn
    obtain ⟨vg, vr, rfl, hog, hor, -⟩ := hR
    obtain ⟨S, hsS, ho, hS, h16, hg0, hz⟩ := openV_form hn
    have hmg := fun b0 W hog hor => merged_any t ks S g r vg vr W (by rw [← hsS]; exact hz) ho hS h16 b0 hog hor
    rw [← hsS] at hmg
    obtain ⟨Ag, cg, rfl⟩ := hog.slice
    obtain ⟨Ar, cr, rfl⟩ := hor.slice
    have hb3 : Below w2.heap.size w2 (w2.alloc (.cells #[.string t, .slice Ag g.length cg, .slice Ar r.length cr] 53)) := (Below.refl _ _).alloc (Nat.le_refl _) _
    have hb4 := hb2.trans (hb3.mono hb2.size)
    have hw2 := (unhide H1).1.trans (hb4.mono (unhide H1).1.size)
    have hH : HeldO (w2.alloc (.cells #[.string t, .slice Ag g.length cg, .slice Ar r.length cr] 53)) w2.heap.size t g r (.slice Ag g.length cg) (.slice Ar r.length cr) w1.heap.size := ⟨Blk.new _ _ _, hog.below hb3, hor.below hb3⟩
    have hV2 := (unhide H1).2.1.below hb4; have hP2 := (unhide H1).2.2.next hb4
    have hG : ∀ x ∈ g, Mine t ks x := openG_mine t ks S [] [] g r ho (fun x hx => by simp at hx)
    have hgr : g.length + r.length ≤ 16 := by have := openG_lens t ks S [] [] g r ho; simp only [List.length_nil] at this; omega
    have htz : t.size ≤ 65536 := by
      have h1 : (writB t S).size = (writL t S).length := by show (writL t S).toArray.size = _; rw [List.size_toArray]
      have h2 := congrArg List.length (writL_join t S)
      have h3 : t.data.toList.length = t.size := rfl
      simp only [List.length_append, List.length_cons] at h2
      rw [← hsS] at h1
      omega
    have H2 := hide (And.intro hw2 (And.intro hH (And.intro hV2 hP2))); have HMG := hide hmg; have HG := hide hG
    have hg1 : ((g.length : Int) == 0) = false := by rw [beq_eq_false_iff_ne]; omega
    have hg2 : ¬ (16 : Int) < (g.length : Int) + (r.length : Int) := by omega
    have hg3 : ¬ (65536 : Int) < (s.size : Int) := by omega
    clear hw2 hH hV2 hP2 hmg hG hog hor hb2 hb3 hb4 HOP H1 hS hsS ho hn
    go_wp2_with fail
    refine (numl_any 0 _ (by decide)).mono ?_
    rintro e w3 ⟨rfl, hw3⟩
    generalize w2.heap.size = g2 at *
    generalize (w2.alloc (.cells #[.string t, .slice Ag g.length cg, .slice Ar r.length cr] 53)) = w2' at *
    subst hw3
    obtain ⟨m0, m1, m2⟩ : w2'.cell? ⟨g2, 0, none⟩ = some (.string t) ∧ w2'.cell? ⟨g2, 1, none⟩ = some (.slice Ag g.length cg) ∧ w2'.cell? ⟨g2, 2, none⟩ = some (.slice Ar r.length cr) := by
      have hN := (unhide H2).2.1.1
      have m0 := hN.cell 0; have m1 := hN.cell 1; have m2 := hN.cell 2
      simp only [List.getElem?_toArray, List.getElem?_cons_zero, List.getElem?_cons_succ] at m0 m1 m2
      exact ⟨m0, m1, m2⟩
    go_wp2_with fail
    refine ((unhide HMG) _ _ (unhide H2).2.1.2.1 (unhide H2).2.1.2.2).mono ?_
    rintro e w4 ⟨rfl, hb5⟩
    have hg2w : g2 < w2'.heap.size := (unhide H2).2.1.1.lt
    have h4 : Below w.heap.size w w4 ∧ HeldO w4 g2 t g r (.slice Ag g.length cg) (.slice Ar r.length cr) w1.heap.size ∧ KeysAt w4 (.slice A ks.length c) ks ∧ PTab w4 := ⟨(unhide H2).1.trans (hb5.mono (unhide H2).1.size), (unhide H2).2.1.next hb5, (unhide H2).2.2.1.below hb5, (unhide H2).2.2.2.next hb5⟩
    have k0 := (hb5.cell (p := ⟨g2, 0, none⟩) (World.block_lt_of_cell? w2' _ m0)).trans m0
    have k1 := (hb5.cell (p := ⟨g2, 1, none⟩) (World.block_lt_of_cell? w2' _ m1)).trans m1
    have k2 := (hb5.cell (p := ⟨g2, 2, none⟩) (World.block_lt_of_cell? w2' _ m2)).trans m2
    have H4 := hide h4; clear h4 hb5 m0 m1 m2 H2 HMG
    go_wp2_with fail
    clear hg1 hg2 hg3 k0 k1 k2 hg2w
    go_loopw [10, 11] (fun i _ W => ∃ k : Nat, i = .int .i64 (k : Int) ∧ k ≤ g.length ∧ Below w.heap.size w W ∧ HeldO W g2 t g r (.slice Ag g.length cg) (.slice Ar r.length cr) w1.heap.size ∧ KeysAt W (.slice A ks.length c) ks ∧ PTab W) (fun i _ _ => g.length - (RowKit.intOf i).toNat)
    case atStart => exact ⟨0, rfl, by omega, unhide H4⟩
    case round =>
      clear H4
      obtain ⟨k, rfl, hk, hb, hH, hV, hP⟩ := hrel
      obtain ⟨m0, m1, m2⟩ : wr.cell? ⟨g2, 0, none⟩ = some (.string t) ∧ wr.cell? ⟨g2, 1, none⟩ = some (.slice Ag g.length cg) ∧ wr.cell? ⟨g2, 2, none⟩ = some (.slice Ar r.length cr) := by
        have m0 := hH.1.cell 0; have m1 := hH.1.cell 1; have m2 := hH.1.cell 2
        simp only [List.getElem?_toArray, List.getElem?_cons_zero, List.getElem?_cons_succ] at m0 m1 m2
        exact ⟨m0, m1, m2⟩
      rcases Nat.lt_or_ge k g.length with hlt | hge
      · have t1 : (k : Int) < (g.length : Int) := by omega
        have t0 : (0 : Int) ≤ (k : Int) := by omega
        have how := owned_any (.slice A ks.length c) ks g[k] t wr.drew (by omega) (unhide HKS) (by omega) (hV.below (Below.refl _ _).drew) (hP.next (Below.refl _ _).drew)
        rw [ownedF_mine (unhide HG _ (List.getElem_mem hlt))] at how
        obtain ⟨gb, hgb, c0, c1, c2⟩ := hH.2.1.at_ k hlt
        subst hgb
        unfold sigV at how
        generalize g[k] = x at *
        obtain ⟨xn, xi, xm⟩ := x
        simp only at c0 c1 c2 how
        have HOW := hide how; have H5 := hide (And.intro hb.drew (And.intro (hH.next (Below.refl _ _).drew) (And.intro (hV.below (Below.refl _ _).drew) (hP.next (Below.refl _ _).drew)))); clear how hb hH hV hP
        go_wp2_with fail
        go_region_held3 (fun W => W.cell? ⟨g2, 0, none⟩ = some (.string t) ∧ W.cell? ⟨g2, 1, none⟩ = some (.slice (some ⟨gb, 0, none⟩) g.length cg) ∧ W.cell? ⟨gb, k * 3, none⟩ = some (.string xn) ∧ W.cell? ⟨gb, k * 3 + 1, none⟩ = some (.string xi) ∧ W.cell? ⟨gb, k * 3 + 2, none⟩ = some (.string xm)) (refine ⟨?_, ?_, ?_, ?_, ?_⟩ <;> assumption) (first
          | (go_at_call 36; refine (unhide HOW).mono ?_; rintro e w5 ⟨rfl, hb6⟩; have n0 := (hb6.cell (p := ⟨g2, 0, none⟩) (World.block_lt_of_cell? wr _ m0)).trans m0; have n1 := (hb6.cell (p := ⟨g2, 1, none⟩) (World.block_lt_of_cell? wr _ m1)).trans m1; have d0 := (hb6.cell (p := ⟨gb, k * 3, none⟩) (World.block_lt_of_cell? wr _ c0)).trans c0; have d1 := (hb6.cell (p := ⟨gb, k * 3 + 1, none⟩) (World.block_lt_of_cell? wr _ c1)).trans c1; have d2 := (hb6.cell (p := ⟨gb, k * 3 + 2, none⟩) (World.block_lt_of_cell? wr _ c2)).trans c2; have h6 : Below w.heap.size w w5 ∧ HeldO w5 g2 t g r (.slice (some ⟨gb, 0, none⟩) g.length cg) (.slice Ar r.length cr) w1.heap.size ∧ KeysAt w5 (.slice A ks.length c) ks ∧ PTab w5 := ⟨(unhide H5).1.trans (hb6.mono (unhide H5).1.size), (unhide H5).2.1.next hb6, (unhide H5).2.2.1.below hb6, (unhide H5).2.2.2.next hb6⟩; have H6 := hide h6; clear h6 hb6))
        go_wp2_with fail
        go_roundw
        case rel => exact ⟨k + 1, by go_num, by omega, unhide H6⟩
        case measure => simp [RowKit.intOf]; omega
      · have t1 : ¬ (k : Int) < (g.length : Int) := by omega
        have HB := hide hb; clear hb hH hV hP
        go_wp2_with fail
        go_ret
        exact ⟨rfl, unhide HB⟩
set_option maxRecDepth 100000 in
theorem noteOnly_walk {H : Type} {enc : TypeId × Value → H} (W : World) (base : Nat) (v0 : Value) (d0 : DataW H) (p0 : List MemPlace) (v1 : Value) (d1 : DataW H) (p1 : List MemPlace) (o0 : Value.okWide Tryd.prog W .any base 9 v0) (h0 : DataW.Trod enc Tryd.prog W 0 (fun _ => true) true 9 v0 d0 p0) (l0 : ∀ x ∈ p0, x.block < W.heap.size) (o1 : Value.okWide Tryd.prog W .any base 45 v1) (h1 : DataW.Trod enc Tryd.prog W 0 (fun _ => true) true 45 v1 d1 p1) (l1 : ∀ x ∈ p1, x.block < W.heap.size) (hz : (DataW.weightsEach Tryd.prog [9, 45] ([d0, d1] : List (DataW H))).all (· ≤ reachBytes) = true) (hk : Rows.uptoBulkAll ([d0, d1] : List (DataW H)) ≤ 1048576) (hL : laidMetH Tryd.prog Rows.noteOnlyUptoRow.laid W) (hsh : W.ShapedOpen Tryd.prog) :
    Calls Tryd.prog 11 #[v0, v1] W fun e W' => e = .returned (.bool true) ∧ Below W.heap.size W W' := by
  have hT := utf8_of (laidMet_plain (by kernel_rfl) hL) (.tail _ (.tail _ (.tail _ (.head _)))) (.tail _ (.tail _ (.head _)))
  have hP := sha_laidP (laid := Rows.noteOnlyUptoRow.laid) (by kernel_rfl) hL (.head _) (.tail _ (.head _))
  obtain ⟨s, rfl, rfl, -⟩ := Go.ChangeMaps.open_string Tryd.underlying9 o0 h0
  obtain ⟨ks, hV, hw⟩ := open_keys o1 h1
  simp only [Rows.uptoBulkAll, Rows.uptoBulk, Array.length_toList] at hk
  have hsz : s.data.size = s.size := rfl
  have hlen := keysW_len ks
  exact lawOnly_any s v1 ks W (by omega) (fun k hk => by have := keysW_mem hk; omega) (by omega) hV hP hT (max_is hsh)
end Go.Proofs.YtfhaoamlagnpjaaDoor

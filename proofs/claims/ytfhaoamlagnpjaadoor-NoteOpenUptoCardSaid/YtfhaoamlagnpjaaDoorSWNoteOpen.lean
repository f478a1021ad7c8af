/-
  THE WALK of the law NoteOpen.
-/
import Derived.Test.YtfhaoamlagnpjaaDoorRows
import Derived.Test.YtfhaoamlagnpjaaDoorGBase
import Derived.Test.YtfhaoamlagnpjaaDoorGOp
import Derived.Test.YtfhaoamlagnpjaaDoorSROpen
import Derived.Test.YtfhaoamlagnpjaaDoorGKs
import Derived.Test.YtfhaoamlagnpjaaDoorGTx
import Derived.Test.YtfhaoamlagnpjaaDoorGLay
import Derived.Test.YtfhaoamlagnpjaaDoorSMaxIs
set_option linter.unusedVariables false
set_option linter.unusedSimpArgs false
namespace Go.Proofs.YtfhaoamlagnpjaaDoor
open Go.RowKit Go.Lib
/-- What the law needs of the world's variables. -/
def LT (w : World) : Prop := PTab w ∧ RTab w ∧ Lib.Utf8Tabs 3 4 w ∧ MaxOk w
theorem LT.next {w W : World} (h : LT w) (hb : Below w.heap.size w W) : LT W := ⟨h.1.next hb, h.2.1.next hb, Tabs.below h.2.2.1 hb (Tabs.lt3 h.2.2.1) (Tabs.lt4 h.2.2.1), h.2.2.2.below hb h.2.2.2.lt⟩
theorem open_parts (note : ByteArray) (v : Value) (ks : List KeyR) (w : World) (hs : note.size ≤ 1048576) (hks : ∀ k ∈ ks, k.nm.size ≤ 1048576 ∧ k.sc.size ≤ 1048576) (hn : ks.length ≤ 1048576) (hV : KeysAt w v ks) (hT : LT w) :
    Calls Tryd.prog 26 #[.string note, v] w fun e w' => ∃ vg vr, e = .returned (.tuple #[.agg #[.string (openX note ks).1, vg, vr], .int .i64 ((openX note ks).2.2.2 : Nat)]) ∧ OwnG w' w.heap.size vg (openX note ks).2.1 ∧ OwnG w' w.heap.size vr (openX note ks).2.2.1 ∧ Below w.heap.size w w' :=
  (open_any note v ks w (by omega) (fun k hk => by have := hks k hk; omega) (by omega) hV hT.1 hT.2.2.1 hT.2.2.2).mono fun e w' ⟨h, hb⟩ => by
    obtain ⟨vg, vr, h1, h2, h3, -⟩ := h.parts
    exact ⟨vg, vr, h1, h2, h3, hb⟩
theorem ropen_parts (note : ByteArray) (v : Value) (ks : List KeyR) (w : World) (hs : note.size ≤ 1048576) (hks : ∀ k ∈ ks, k.nm.size ≤ 1048576 ∧ k.sc.size ≤ 1048576) (hn : ks.length ≤ 1048576) (hV : KeysAt w v ks) (hT : LT w) :
    Calls Tryd.prog 27 #[.string note, v] w fun e w' => ∃ vg vr, e = .returned (.tuple #[.agg #[.string (openX note ks).1, vg, vr], .int .i64 ((openX note ks).2.2.2 : Nat)]) ∧ OwnG w' w.heap.size vg (openX note ks).2.1 ∧ OwnG w' w.heap.size vr (openX note ks).2.2.1 ∧ Below w.heap.size w w' :=
  (ropen_any note v ks w (by omega) (fun k hk => by have := hks k hk; omega) (by omega) hV hT.2.1).mono fun e w' ⟨h, hb⟩ => by
    obtain ⟨vg, vr, h1, h2, h3, -⟩ := h.parts
    exact ⟨vg, vr, h1, h2, h3, hb⟩
/-- An opened note, held in a block. -/
def HeldO (X : World) (m : Nat) (t : ByteArray) (g r : List SigR) (vg vr : Value) (b : Nat) : Prop := Blk X m 53 #[.string t, vg, vr] ∧ OwnG X b vg g ∧ OwnG X b vr r
theorem HeldO.next {X Y : World} {m b : Nat} {t : ByteArray} {g r : List SigR} {vg vr : Value} (h : HeldO X m t g r vg vr b) (hb : Below X.heap.size X Y) : HeldO Y m t g r vg vr b := ⟨h.1.below hb h.1.lt, h.2.1.below hb, h.2.2.below hb⟩
theorem HeldO.store {X : World} {m b b2 gk n cap : Nat} {t : ByteArray} {g r : List SigR} {vg vr : Value} {full : List KeyR} (h : HeldO X m t g r vg vr b) (hK : OwnK X b2 (.slice (some ⟨gk, 0, none⟩) n cap) full) (u : Value) : HeldO (X.setCell ⟨gk, 0, none⟩ u) m t g r vg vr b := by
  obtain ⟨cur, hcur⟩ : ∃ cur, Blk X gk 27 cur := by
    rcases hK.2 with ⟨hv, _⟩ | ⟨g', cap', cur, hv, _, hh, _⟩
    · cases hv
    · injection hv with e _ _
      injection e with e
      injection e with e
      subst e
      exact ⟨cur, hh⟩
  refine ⟨h.1.far (p := ⟨gk, 0, none⟩) (h.1.ne_ hcur (by decide)) u, h.2.1.far2 (p := ⟨gk, 0, none⟩) (own_blk_ne h.2.1 hcur (by decide)) u, h.2.2.far2 (p := ⟨gk, 0, none⟩) (own_blk_ne h.2.2 hcur (by decide)) u⟩
set_option maxRecDepth 100000 in
set_option maxHeartbeats 4000000 in
theorem lawOpen_any (s : ByteArray) (v : Value) (ks : List KeyR) (w : World) (hs : s.size ≤ 1048576) (hks : keysW ks ≤ 1048576) (hV : KeysAt w v ks) (hT : LT w) :
    Calls Tryd.prog 8 #[.string s, v] w fun e W' => e = .returned (.bool true) ∧ Below w.heap.size w W' := by
  have hlen := keysW_len ks
  have hmem : ∀ k ∈ ks, k.nm.size ≤ 1048576 ∧ k.sc.size ≤ 1048576 := fun k hk => by have := keysW_mem hk; omega
  obtain ⟨A, c, rfl, -⟩ := id hV
  have hk0 := keys_any _ ks w (by omega) hV
  have hox := openX_len s ks
  have HT := hide hT; have HK := hide hk0; have HV := hide hV; have HM := hide hmem; clear hT hk0 hV hmem
  go_enter Tryd.func8, Tryd.ntmps8
  go_wp2_with fail
  refine (unhide HK).mono ?_
  rintro e w1 ⟨v1, rfl, hO1, hb1⟩
  obtain ⟨g, cap, rfl, hgb, hgl, hcap⟩ := hO1.some (by simp)
  have hcap' : ks.length + 1 ≤ cap := by simpa using hcap
  have hll : (ks ++ [behindK]).length = ks.length + 1 := by simp
  rw [hll] at hO1 ⊢
  clear hll hcap
  have hN1 : NS w (.slice A ks.length c) ks g (ks.length + 1) cap (ks ++ [behindK]) w1 := ⟨hb1, (unhide HV).below hb1, hO1⟩
  clear hb1 hO1 HK
  have hi1 : (ks.length : Int) ≤ (cap : Int) := by omega
  have hi2 : (0 : Int) ≤ (ks.length : Int) := by omega
  have hS1 := hN1.2.2.keys ks.length cap (by simp)
  rw [List.take_left] at hS1
  have hcall := open_parts s _ ks w1 hs (unhide HM) (by omega) hS1 ((unhide HT).next hN1.1)
  have hrc : ∀ W, KeysAt W (.slice A ks.length c) ks → LT W → _ := fun W h1 h2 => ropen_parts s (.slice A ks.length c) ks W hs (unhide HM) (by omega) h1 h2
  obtain ⟨t, gg, rr, z, hx⟩ : ∃ t gg rr z, openX s ks = (t, gg, rr, z) := ⟨_, _, _, _, rfl⟩
  rw [hx] at hcall hrc hox
  simp only at hcall hrc hox
  obtain ⟨hg16, hz⟩ := hox
  have HC := hide hcall; have HRC := hide hrc; have HN1 := hide hN1; clear hcall hrc hN1 hS1 hx
  go_wp2_with fail
  refine (unhide HC).mono ?_
  rintro e w2 ⟨vg, vr, rfl, hog, hor, hb2⟩
  obtain ⟨Ag, cg, rfl⟩ := hog.slice
  obtain ⟨Ar, cr, rfl⟩ := hor.slice
  have hb2' : Below w1.heap.size w1 (w2.alloc (.cells #[.string t, .slice Ag gg.length cg, .slice Ar rr.length cr] 53)) := hb2.alloc hb2.size _
  have hN2 := (unhide HN1).next hb2'
  have hb3 : Below w2.heap.size w2 (w2.alloc (.cells #[.string t, .slice Ag gg.length cg, .slice Ar rr.length cr] 53)) := (Below.refl _ _).alloc (Nat.le_refl _) _
  have hH2 : HeldO (w2.alloc (.cells #[.string t, .slice Ag gg.length cg, .slice Ar rr.length cr] 53)) w2.heap.size t gg rr (.slice Ag gg.length cg) (.slice Ar rr.length cr) w1.heap.size := ⟨Blk.new _ _ _, hog.below hb3, hor.below hb3⟩
  have H2 := hide (And.intro hN2 hH2); clear hb2 hb2' hb3 hN2 hH2 hog hor HC
  go_wp2_with fail
  generalize w2.heap.size = m6 at *
  generalize (w2.alloc (.cells #[.string t, .slice Ag gg.length cg, .slice Ar rr.length cr] 53)) = w3 at *
  refine ((unhide HRC) w3 (unhide H2).1.2.1 ((unhide HT).next (unhide H2).1.1)).mono ?_
  rintro e w4 ⟨ug, ur, rfl, hog, hor, hb4⟩
  obtain ⟨Bg, dg, rfl⟩ := hog.slice
  obtain ⟨Br, dr, rfl⟩ := hor.slice
  have hb4' : Below w3.heap.size w3 (w4.alloc (.cells #[.string t, .slice Bg gg.length dg, .slice Br rr.length dr] 53)) := hb4.alloc hb4.size _
  have hN4 := (unhide H2).1.next hb4'
  have hH4 := (unhide H2).2.next hb4'
  have hb5 : Below w4.heap.size w4 (w4.alloc (.cells #[.string t, .slice Bg gg.length dg, .slice Br rr.length dr] 53)) := (Below.refl _ _).alloc (Nat.le_refl _) _
  have hG4 : HeldO (w4.alloc (.cells #[.string t, .slice Bg gg.length dg, .slice Br rr.length dr] 53)) w4.heap.size t gg rr (.slice Bg gg.length dg) (.slice Br rr.length dr) w3.heap.size := ⟨Blk.new _ _ _, hog.below hb5, hor.below hb5⟩
  have hh4 := (unhide H2).2.next hb4
  have k0 := hh4.1.cell 0; have k1 := hh4.1.cell 1; have k2 := hh4.1.cell 2; have kz := hh4.1.lt
  simp only [List.getElem?_toArray, List.getElem?_cons_zero, List.getElem?_cons_succ] at k0 k1 k2
  have H4 := hide (And.intro hN4 (And.intro hH4 hG4)); clear hb4 hb4' hb5 hN4 hH4 hG4 hh4 hog hor H2
  go_wp2_with fail
  generalize w4.heap.size = m8 at *
  generalize (w4.alloc (.cells #[.string t, .slice Bg gg.length dg, .slice Br rr.length dr] 53)) = w5 at *
  clear k0 k1 k2 kz
  refine (opened_eq t _ _ _ _ gg rr w5 _ _ _ _ (by omega) (by omega) (unhide H4).2.1.2.1 (unhide H4).2.1.2.2 (unhide H4).2.2.2.1 (unhide H4).2.2.2.2).mono ?_
  rintro e w6 ⟨rfl, hb6⟩
  have H6 := hide (And.intro ((unhide H4).1.next hb6) (And.intro ((unhide H4).2.1.next hb6) ((unhide H4).2.2.next hb6))); clear hb6 H4
  go_wp2_with fail
  refine (numl_any z _ hz).mono ?_
  rintro e w7 ⟨rfl, rfl⟩
  have hS3 := (unhide H6).1.2.2.keys (ks.length + 1) cap (by simp)
  rw [List.take_of_length_le (by simp)] at hS3
  have hkt := kept_eq _ _ ks w6 (by omega) hS3 (unhide H6).1.2.1
  have HKT := hide hkt; clear hS3 hkt
  go_wp2_with fail
  refine (unhide HKT).mono ?_
  rintro e w5 ⟨rfl, nd, rfl⟩
  have hbd := below_drewN (Below.refl w6.heap.size w6) nd
  have H7 := hide (And.intro ((unhide H6).1.next hbd) (And.intro ((unhide H6).2.1.next hbd) ((unhide H6).2.2.next hbd))); clear hbd HKT H6
  generalize w6.drewN nd = w7 at *
  rcases Nat.eq_zero_or_pos ks.length with h0 | h0
  · have h00 : ((ks.length : Int) == 0) = true := by rw [h0]; rfl
    clear h0
    have k0 := (unhide H7).2.1.1.cell 0; have k1 := (unhide H7).2.1.1.cell 1; have k2 := (unhide H7).2.1.1.cell 2
    have l0 := (unhide H7).2.2.1.cell 0; have l1 := (unhide H7).2.2.1.cell 1; have l2 := (unhide H7).2.2.1.cell 2
    simp only [List.getElem?_toArray, List.getElem?_cons_zero, List.getElem?_cons_succ] at k0 k1 k2 l0 l1 l2
    go_wp2_with fail
    refine (opened_eq t _ _ _ _ gg rr w7 _ _ _ _ (by omega) (by omega) (unhide H7).2.1.2.1 (unhide H7).2.1.2.2 (unhide H7).2.2.2.1 (unhide H7).2.2.2.2).mono ?_
    rintro e w8 ⟨rfl, hb8⟩
    have H8 := hide ((unhide H7).1.next hb8); clear hb8 k0 k1 k2 l0 l1 l2
    go_wp2_with fail
    refine (numl_any z _ hz).mono ?_
    rintro e w9 ⟨rfl, rfl⟩
    have hS3 := (unhide H8).2.2.keys (ks.length + 1) cap (by simp)
    rw [List.take_of_length_le (by simp)] at hS3
    have hkt := kept_eq _ _ ks w8 (by omega) hS3 (unhide H8).2.1
    have HKT := hide hkt; clear hS3 hkt
    go_wp2_with fail
    refine (unhide HKT).mono ?_
    rintro e w10 ⟨rfl, nd2, rfl⟩
    go_wp2_with fail
    go_ret
    exact ⟨rfl, below_drewN (unhide H8).1 nd2⟩
  · have h00 : ((ks.length : Int) == 0) = false := by rw [beq_eq_false_iff_ne]; omega
    obtain ⟨k0n, ks2, hl2, hks2, hc0, hf0, hS6, hb6⟩ := ns_store (unhide H7).1 hgb h0 (unhide HM)
    have hi3 : (0 : Int) < (ks.length : Int) + 1 := by omega
    have hox := openX_len s ks2
    have hLT := (unhide HT).next hb6
    have hcall := open_parts s _ ks2 _ hs hks2 (by omega) hS6 hLT
    have hrc : ∀ W, KeysAt W (.slice (some ⟨g, 0, none⟩) ks.length cap) ks2 → LT W → _ := fun W h1 h2 => ropen_parts s (.slice (some ⟨g, 0, none⟩) ks.length cap) ks2 W hs hks2 (by omega) h1 h2
    obtain ⟨t2, g2, r2, z2, hx⟩ : ∃ gt gg rr z, openX s ks2 = (gt, gg, rr, z) := ⟨_, _, _, _, rfl⟩
    rw [hx] at hcall hrc hox
    simp only at hcall hrc hox
    obtain ⟨hg16b, hz2⟩ := hox
    have h6a := (unhide H7).2.1.store (unhide H7).1.2.2 (.string ⟨#[97, 110, 111, 116, 104, 101, 114]⟩)
    have h6b := (unhide H7).2.2.store (unhide H7).1.2.2 (.string ⟨#[97, 110, 111, 116, 104, 101, 114]⟩)
    have H8 := hide (And.intro hS6 (And.intro hb6 (And.intro h6a h6b))); have HC := hide hcall; have HRC := hide hrc
    clear hS6 hb6 h6a h6b hcall hrc hx hLT hks2 H7
    go_wp2_with fail
    clear hc0 hf0
    generalize (w7.setCell ⟨g, 0, none⟩ (.string ⟨#[97, 110, 111, 116, 104, 101, 114]⟩)) = w8 at *
    refine (unhide HC).mono ?_
    rintro e w9 ⟨vg, vr, rfl, hog, hor, hb9⟩
    obtain ⟨Cg, cg2, rfl⟩ := hog.slice
    obtain ⟨Cr, cr2, rfl⟩ := hor.slice
    have hb10 : Below w8.heap.size w8 (w9.alloc (.cells #[.string t2, .slice Cg g2.length cg2, .slice Cr r2.length cr2] 53)) := hb9.alloc hb9.size _
    have hb11 : Below w9.heap.size w9 (w9.alloc (.cells #[.string t2, .slice Cg g2.length cg2, .slice Cr r2.length cr2] 53)) := (Below.refl _ _).alloc (Nat.le_refl _) _
    have hH9 : HeldO (w9.alloc (.cells #[.string t2, .slice Cg g2.length cg2, .slice Cr r2.length cr2] 53)) w9.heap.size t2 g2 r2 (.slice Cg g2.length cg2) (.slice Cr r2.length cr2) w8.heap.size := ⟨Blk.new _ _ _, hog.below hb11, hor.below hb11⟩
    have H9 := hide (And.intro ((unhide H8).1.below hb10) (And.intro ((unhide H8).2.1.trans (hb10.mono (unhide H8).2.1.size)) (And.intro ((unhide H8).2.2.1.next hb10) (And.intro ((unhide H8).2.2.2.next hb10) hH9))))
    clear hb9 hb10 hb11 hH9 hog hor HC H8
    go_wp2_with fail
    generalize w9.heap.size = m10 at *
    generalize (w9.alloc (.cells #[.string t2, .slice Cg g2.length cg2, .slice Cr r2.length cr2] 53)) = w10 at *
    refine ((unhide HRC) w10 (unhide H9).1 ((unhide HT).next (unhide H9).2.1)).mono ?_
    rintro e w11 ⟨ug, ur, rfl, hog, hor, hb11⟩
    obtain ⟨Dg, dg2, rfl⟩ := hog.slice
    obtain ⟨Dr, dr2, rfl⟩ := hor.slice
    have hb12 : Below w10.heap.size w10 (w11.alloc (.cells #[.string t2, .slice Dg g2.length dg2, .slice Dr r2.length dr2] 53)) := hb11.alloc hb11.size _
    have hb13 : Below w11.heap.size w11 (w11.alloc (.cells #[.string t2, .slice Dg g2.length dg2, .slice Dr r2.length dr2] 53)) := (Below.refl _ _).alloc (Nat.le_refl _) _
    have hH11 : HeldO (w11.alloc (.cells #[.string t2, .slice Dg g2.length dg2, .slice Dr r2.length dr2] 53)) w11.heap.size t2 g2 r2 (.slice Dg g2.length dg2) (.slice Dr r2.length dr2) w10.heap.size := ⟨Blk.new _ _ _, hog.below hb13, hor.below hb13⟩
    have hA11 := (unhide H9).2.2.1.next hb11; have hB11 := (unhide H9).2.2.2.1.next hb11
    have k0 := hA11.1.cell 0; have k1 := hA11.1.cell 1; have k2 := hA11.1.cell 2; have kz := hA11.1.lt
    have l0 := hB11.1.cell 0; have l1 := hB11.1.cell 1; have l2 := hB11.1.cell 2; have lz := hB11.1.lt
    simp only [List.getElem?_toArray, List.getElem?_cons_zero, List.getElem?_cons_succ] at k0 k1 k2 l0 l1 l2
    have H11 := hide (And.intro ((unhide H9).2.1.trans (hb12.mono (unhide H9).2.1.size)) (And.intro ((unhide H9).2.2.1.next hb12) (And.intro ((unhide H9).2.2.2.1.next hb12) (And.intro ((unhide H9).2.2.2.2.next hb12) hH11))))
    clear hb11 hb12 hb13 hH11 hA11 hB11 hog hor H9
    go_wp2_with fail
    generalize w11.heap.size = m12 at *
    generalize (w11.alloc (.cells #[.string t2, .slice Dg g2.length dg2, .slice Dr r2.length dr2] 53)) = w12 at *
    clear k0 k1 k2 kz l0 l1 l2 lz
    refine (opened_eq t _ _ _ _ gg rr w12 _ _ _ _ (by omega) (by omega) (unhide H11).2.1.2.1 (unhide H11).2.1.2.2 (unhide H11).2.2.1.2.1 (unhide H11).2.2.1.2.2).mono ?_
    rintro e w13 ⟨rfl, hb13⟩
    have H13 := hide (And.intro ((unhide H11).1.trans (hb13.mono (unhide H11).1.size)) (And.intro ((unhide H11).2.2.2.1.next hb13) ((unhide H11).2.2.2.2.next hb13)))
    clear hb13 H11
    have k0 := (unhide H13).2.1.1.cell 0; have k1 := (unhide H13).2.1.1.cell 1; have k2 := (unhide H13).2.1.1.cell 2
    have l0 := (unhide H13).2.2.1.cell 0; have l1 := (unhide H13).2.2.1.cell 1; have l2 := (unhide H13).2.2.1.cell 2
    simp only [List.getElem?_toArray, List.getElem?_cons_zero, List.getElem?_cons_succ] at k0 k1 k2 l0 l1 l2
    go_wp2_with fail
    refine (opened_eq t2 _ _ _ _ g2 r2 w13 _ _ _ _ (by omega) (by omega) (unhide H13).2.1.2.1 (unhide H13).2.1.2.2 (unhide H13).2.2.2.1 (unhide H13).2.2.2.2).mono ?_
    rintro e w14 ⟨rfl, hb14⟩
    have H14 := hide ((unhide H13).1.trans (hb14.mono (unhide H13).1.size)); clear hb14 H13 k0 k1 k2 l0 l1 l2
    go_wp2_with fail
    refine (numl_any z2 _ hz2).mono ?_
    rintro e w15 ⟨rfl, rfl⟩
    go_wp2_with fail
    go_ret
    exact ⟨rfl, unhide H14⟩
set_option maxRecDepth 100000 in
theorem noteOpen_walk {H : Type} {enc : TypeId × Value → H} (W : World) (base : Nat) (v0 : Value) (d0 : DataW H) (p0 : List MemPlace) (v1 : Value) (d1 : DataW H) (p1 : List MemPlace) (o0 : Value.okWide Tryd.prog W .any base 9 v0) (h0 : DataW.Trod enc Tryd.prog W 0 (fun _ => true) true 9 v0 d0 p0) (l0 : ∀ x ∈ p0, x.block < W.heap.size) (o1 : Value.okWide Tryd.prog W .any base 45 v1) (h1 : DataW.Trod enc Tryd.prog W 0 (fun _ => true) true 45 v1 d1 p1) (l1 : ∀ x ∈ p1, x.block < W.heap.size) (hz : (DataW.weightsEach Tryd.prog [9, 45] ([d0, d1] : List (DataW H))).all (· ≤ reachBytes) = true) (hk : Rows.uptoBulkAll ([d0, d1] : List (DataW H)) ≤ 1048576) (hL : laidMetH Tryd.prog Rows.noteOpenUptoRow.laid W) (hsh : W.ShapedOpen Tryd.prog) :
    Calls Tryd.prog 8 #[v0, v1] W fun e W' => e = .returned (.bool true) ∧ Below W.heap.size W W' := by
  have hT := utf8_of (laidMet_plain (by kernel_rfl) hL) (.tail _ (.tail _ (.tail _ (.tail _ (.tail _ (.head _)))))) (.tail _ (.tail _ (.tail _ (.tail _ (.head _)))))
  obtain ⟨h1', h2', h3', h4'⟩ := sha_laid (laid := Rows.noteOpenUptoRow.laid) (by kernel_rfl) hL (.tail _ (.tail _ (.head _))) (.tail _ (.tail _ (.tail _ (.head _)))) (.head _) (.tail _ (.head _))
  obtain ⟨s, rfl, rfl, -⟩ := Go.ChangeMaps.open_string Tryd.underlying9 o0 h0
  obtain ⟨ks, hV, hw⟩ := open_keys o1 h1
  simp only [Rows.uptoBulkAll, Rows.uptoBulk, Array.length_toList] at hk
  have hsz : s.data.size = s.size := rfl
  exact lawOpen_any s v1 ks W (by omega) (by omega) hV ⟨⟨h1', h2'⟩, ⟨h3', h4'⟩, hT, max_is hsh⟩
end Go.Proofs.YtfhaoamlagnpjaaDoor

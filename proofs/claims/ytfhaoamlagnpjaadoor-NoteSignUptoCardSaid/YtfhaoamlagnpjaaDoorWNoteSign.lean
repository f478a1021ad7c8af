/-
  THE WALK of the law NoteSign.
-/
import Derived.Test.YtfhaoamlagnpjaaDoorRows
import Derived.Test.YtfhaoamlagnpjaaDoorWd
import Derived.Test.YtfhaoamlagnpjaaDoorSign
import Derived.Test.YtfhaoamlagnpjaaDoorRSign
import Derived.Test.YtfhaoamlagnpjaaDoorKeys
import Derived.Test.YtfhaoamlagnpjaaDoorOpenKeys
import Derived.Test.YtfhaoamlagnpjaaDoorTexts
import Derived.Test.YtfhaoamlagnpjaaDoorLaid
import Derived.Test.YtfhaoamlagnpjaaDoorLaidPlain
import Derived.Test.YtfhaoamlagnpjaaDoorOpenCp
set_option linter.unusedVariables false
set_option linter.unusedSimpArgs false
namespace Go.Proofs.YtfhaoamlagnpjaaDoor
open Go.RowKit Go.Lib
/-- What stands while the law runs. -/
def NS (w : World) (v : Value) (ks : List KeyR) (g n cap : Nat) (full : List KeyR) (X : World) : Prop :=
  Below w.heap.size w X ∧ KeysAt X v ks ∧ OwnK X w.heap.size (.slice (some ⟨g, 0, none⟩) n cap) full
theorem NS.next {w : World} {v : Value} {ks : List KeyR} {g n cap : Nat} {full : List KeyR} {X Y : World} (h : NS w v ks g n cap full X) (hb : Below X.heap.size X Y) : NS w v ks g n cap full Y :=
  ⟨h.1.trans (hb.mono h.1.size), h.2.1.below hb, h.2.2.below hb⟩
theorem NS.tabs {w : World} {v : Value} {ks : List KeyR} {g n cap : Nat} {full : List KeyR} {X : World} (h : NS w v ks g n cap full X) {g3 g4 : Nat} (hT : Lib.Utf8Tabs g3 g4 w) : Lib.Utf8Tabs g3 g4 X :=
  Tabs.below hT h.1 (Tabs.lt3 hT) (Tabs.lt4 hT)
theorem ns_store {w : World} {v : Value} {ks : List KeyR} {g cap : Nat} {X : World} (h : NS w v ks g (ks.length + 1) cap (ks ++ [behindK]) X) (hgb : w.heap.size ≤ g) (h0 : 0 < ks.length) (hm : ∀ k ∈ ks, k.nm.size ≤ 1048576 ∧ k.sc.size ≤ 1048576) :
    ∃ (x : ByteArray) (ks2 : List KeyR), ks2.length = ks.length ∧ (∀ k ∈ ks2, k.nm.size ≤ 1048576 ∧ k.sc.size ≤ 1048576) ∧ X.cell? ⟨g, 0, none⟩ = some (.string x) ∧ X.frozen? ⟨g, 0, none⟩ = false ∧
      KeysAt (X.setCell ⟨g, 0, none⟩ (.string ⟨#[97, 110, 111, 116, 104, 101, 114]⟩)) (.slice (some ⟨g, 0, none⟩) ks.length cap) ks2 ∧ Below w.heap.size w (X.setCell ⟨g, 0, none⟩ (.string ⟨#[97, 110, 111, 116, 104, 101, 114]⟩)) := by
  obtain ⟨k0, r, rfl⟩ : ∃ k0 r, ks = k0 :: r := by
    cases ks with
    | nil => simp at h0
    | cons a b => exact ⟨a, b, rfl⟩
  have hO6 := h.2.2.store ⟨#[97, 110, 111, 116, 104, 101, 114]⟩ k0 (r ++ [behindK]) rfl
  have hS6 := hO6.keys (r.length + 1) cap (by simp)
  have hF : X.ownsRow w.heap.size 27 2 (.slice (some ⟨g, 0, none⟩) ((k0 :: r).length + 1) cap) ((k0 :: r).length + 1) (keyCells (k0 :: r ++ [behindK])) := by
    have hh := h.2.2
    unfold OwnK at hh
    rw [List.length_append] at hh
    exact hh
  rw [List.take_succ_cons, List.take_left] at hS6
  refine ⟨k0.nm, ⟨⟨#[97, 110, 111, 116, 104, 101, 114]⟩, k0.sc⟩ :: r, rfl, ?_, h.2.2.cell 0 0 (by simp) (by omega), World.ownsRow.frozenAt hF 0, hS6, h.1.setCell (p := ⟨g, 0, none⟩) hgb _⟩
  intro k hk
  rcases List.mem_cons.1 hk with rfl | hk
  · exact ⟨by show 7 ≤ 1048576; omega, (hm k0 (List.mem_cons_self ..)).2⟩
  · exact hm k (List.mem_cons_of_mem _ hk)
set_option maxRecDepth 100000 in
set_option maxHeartbeats 4000000 in
theorem lawSign_any (t : ByteArray) (v : Value) (ks : List KeyR) (w : World) (ht : t.size ≤ 1048576) (hks : keysW ks ≤ 1048576) (hV : KeysAt w v ks) (hP : PTab w) (hR : RTab w) (hU : Lib.Utf8Tabs 3 4 w) :
    Calls Tryd.prog 7 #[.string t, v] w fun e W' => e = .returned (.bool true) ∧ Below w.heap.size w W' := by
  have hlen := keysW_len ks
  have hmem : ∀ k ∈ ks, k.nm.size ≤ 1048576 ∧ k.sc.size ≤ 1048576 := fun k hk => by have := keysW_mem hk; omega
  obtain ⟨A, c, rfl, -⟩ := id hV
  have hk0 := keys_any _ ks w (by omega) hV
  have HT := hide (And.intro hP (And.intro hR hU)); have HK := hide hk0; have HV := hide hV; have HM := hide hmem; clear hP hR hU hk0 hV hmem
  go_enter Tryd.func7, Tryd.ntmps7
  go_wp2_with fail
  refine (unhide HK).mono ?_
  rintro e w1 ⟨v1, rfl, hO1, hb1⟩
  obtain ⟨g, cap, rfl, hgb, hgl, hcap⟩ := hO1.some (by simp)
  have hcap' : ks.length + 1 ≤ cap := by simpa using hcap
  have hll : (ks ++ [behindK]).length = ks.length + 1 := by simp
  rw [hll] at hO1 ⊢
  clear hll hcap
  have hN1 : NS w (.slice A ks.length c) ks g (ks.length + 1) cap (ks ++ [behindK]) w1 := ⟨hb1, (unhide HV).below hb1, hO1⟩
  clear hb1 hO1 HK
  have hi1 : (ks.length : Int) ≤ (cap : Int) := by omega
  have hi2 : (0 : Int) ≤ (ks.length : Int) := by omega
  have hS1 := hN1.2.2.keys ks.length cap (by simp)
  rw [List.take_left] at hS1
  have hcall := signN_any t _ ks w1 (by omega) (fun k hk => by have := unhide HM k hk; omega) (by omega) hS1 ((unhide HT).1.next hN1.1) (hN1.tabs (unhide HT).2.2)
  obtain ⟨sx, sz, hsv, hsz⟩ := signA_form t ks
  rw [hsv] at hcall
  have HSV := Lib.hid hsv; have HC := hide hcall; have HN1 := hide hN1; clear hsv hcall hN1 hS1
  go_wp2_with fail
  refine (unhide HC).mono ?_
  rintro e w2 ⟨rfl, hb2⟩
  have hN2 := (unhide HN1).next hb2
  have hcall := rsignN_any t _ ks w2 (by omega) (fun k hk => by have := unhide HM k hk; omega) (by omega) hN2.2.1 ((unhide HT).2.1.next hN2.1)
  rw [HSV.out] at hcall
  have HC2 := hide hcall; have HN2 := hide hN2; clear hb2 hN2 hcall HC
  go_wp2_with fail
  refine (unhide HC2).mono ?_
  rintro e w3 ⟨rfl, hb3⟩
  have hN3 := (unhide HN2).next hb3
  have hS3 := hN3.2.2.keys (ks.length + 1) cap (by simp)
  rw [List.take_of_length_le (by simp)] at hS3
  have hkt := kept_eq _ _ ks w3 (by omega) hS3 hN3.2.1
  have HKT := hide hkt; have HN3 := hide hN3; clear hb3 hN3 hS3 hkt HC2
  have hss : (sx.toList == sx.toList) = true := toList_same sx
  go_wp2_with fail
  refine (numl_any sz _ hsz).mono ?_
  rintro e w4 ⟨rfl, rfl⟩
  go_wp2_with fail
  refine (unhide HKT).mono ?_
  rintro e w5 ⟨rfl, nd, rfl⟩
  have hN5 := (unhide HN3).next (below_drewN (Below.refl _ _) nd)
  have HN5 := hide hN5; clear hN5 HKT
  rcases Nat.eq_zero_or_pos ks.length with h0 | h0
  · have h00 : ((ks.length : Int) == 0) = true := by rw [h0]; rfl
    clear h0
    have hS5 := (unhide HN5).2.2.keys (ks.length + 1) cap (by simp)
    rw [List.take_of_length_le (by simp)] at hS5
    have hkt := kept_eq _ _ ks (w3.drewN nd) (by omega) hS5 (unhide HN5).2.1
    have HKT := hide hkt; clear hkt hS5
    go_wp2_with fail
    refine (numl_any sz _ hsz).mono ?_
    rintro e w4 ⟨rfl, rfl⟩
    go_wp2_with fail
    refine (unhide HKT).mono ?_
    rintro e w6 ⟨rfl, nd2, rfl⟩
    go_wp2_with fail
    go_ret
    exact ⟨rfl, below_drewN (unhide HN3).1 (nd + nd2)⟩
  · have h00 : ((ks.length : Int) == 0) = false := by rw [beq_eq_false_iff_ne]; omega
    obtain ⟨k0n, ks2, hl2, hks2, hc0, hf0, hS6, hb6⟩ := ns_store (unhide HN5) hgb h0 (unhide HM)
    have H6 := hide (And.intro hS6 (And.intro hb6 hks2))
    clear hS6 hb6 hks2
    have hi3 : (0 : Int) < (ks.length : Int) + 1 := by omega
    obtain ⟨ux, uz, huv, huz⟩ := signA_form t ks2
    have hPT := (unhide HT).1.next (unhide H6).2.1
    have hUT := Tabs.below (unhide HT).2.2 (unhide H6).2.1 (Tabs.lt3 (unhide HT).2.2) (Tabs.lt4 (unhide HT).2.2)
    have hcall := signN_any t _ ks2 _ (by omega) (fun k hk => by have := (unhide H6).2.2 k hk; omega) (by omega) (unhide H6).1 hPT hUT
    rw [huv] at hcall
    have HUV := Lib.hid huv; have HC := hide hcall; clear huv hcall hPT hUT
    go_wp2_with fail
    refine (unhide HC).mono ?_
    rintro e w7 ⟨rfl, hb7⟩
    have hw7 := (unhide H6).2.1.trans (hb7.mono (unhide H6).2.1.size)
    have hcall := rsignN_any t _ ks2 w7 (by omega) (fun k hk => by have := (unhide H6).2.2 k hk; omega) (by omega) ((unhide H6).1.below hb7) ((unhide HT).2.1.next hw7)
    rw [HUV.out] at hcall
    have HC2 := hide hcall; have H7 := hide hw7; clear hcall hw7 hb7 HC hc0 hf0
    have hss2 : (ux.toList == ux.toList) = true := toList_same ux
    go_wp2_with fail
    refine (unhide HC2).mono ?_
    rintro e w8 ⟨rfl, hb8⟩
    have hw8 := (unhide H7).trans (hb8.mono (unhide H7).size)
    have H8 := hide hw8; clear hw8 hb8 HC2
    go_wp2_with fail
    refine (numl_any uz _ huz).mono ?_
    rintro e w9 ⟨rfl, rfl⟩
    go_wp2_with fail
    go_ret
    exact ⟨rfl, unhide H8⟩
set_option maxRecDepth 100000 in
theorem noteSign_walk {H : Type} {enc : TypeId × Value → H} (W : World) (base : Nat) (v0 : Value) (d0 : DataW H) (p0 : List MemPlace) (v1 : Value) (d1 : DataW H) (p1 : List MemPlace) (o0 : Value.okWide Tryd.prog W .any base 9 v0) (h0 : DataW.Trod enc Tryd.prog W 0 (fun _ => true) true 9 v0 d0 p0) (l0 : ∀ x ∈ p0, x.block < W.heap.size) (o1 : Value.okWide Tryd.prog W .any base 45 v1) (h1 : DataW.Trod enc Tryd.prog W 0 (fun _ => true) true 45 v1 d1 p1) (l1 : ∀ x ∈ p1, x.block < W.heap.size) (hz : (DataW.weightsEach Tryd.prog [9, 45] ([d0, d1] : List (DataW H))).all (· ≤ reachBytes) = true) (hk : Rows.uptoBulkAll ([d0, d1] : List (DataW H)) ≤ 1048576) (hL : laidMetH Tryd.prog Rows.noteSignUptoRow.laid W) (hsh : W.ShapedOpen Tryd.prog) :
    Calls Tryd.prog 7 #[v0, v1] W fun e W' => e = .returned (.bool true) ∧ Below W.heap.size W W' := by
  have hT := utf8_of (laidMet_plain (by kernel_rfl) hL) (.tail _ (.tail _ (.tail _ (.tail _ (.tail _ (.head _)))))) (.tail _ (.tail _ (.tail _ (.tail _ (.head _)))))
  obtain ⟨h1', h2', h3', h4'⟩ := sha_laid (laid := Rows.noteSignUptoRow.laid) (by kernel_rfl) hL (.tail _ (.tail _ (.head _))) (.tail _ (.tail _ (.tail _ (.head _)))) (.head _) (.tail _ (.head _))
  obtain ⟨s, rfl, rfl, -⟩ := Go.ChangeMaps.open_string Tryd.underlying9 o0 h0
  obtain ⟨ks, hV, hw⟩ := open_keys o1 h1
  simp only [Rows.uptoBulkAll, Rows.uptoBulk, Array.length_toList] at hk
  have hsz : s.data.size = s.size := rfl
  exact lawSign_any s v1 ks W (by omega) (by omega) hV ⟨h1', h2'⟩ ⟨h3', h4'⟩ hT
end Go.Proofs.YtfhaoamlagnpjaaDoor

/-
  THE WALK of the law NoteText.
-/
import Derived.Test.YtfhaoamlagnpjaaDoorRows
import Derived.Test.YtfhaoamlagnpjaaDoorWd
import Derived.Test.YtfhaoamlagnpjaaDoorStrRow
import Derived.Test.YtfhaoamlagnpjaaDoorTextb
import Derived.Test.YtfhaoamlagnpjaaDoorRTextb
import Derived.Test.YtfhaoamlagnpjaaDoorTexts
import Derived.Test.YtfhaoamlagnpjaaDoorLaidPlain
import Derived.Test.YtfhaoamlagnpjaaDoorOpenCp
set_option linter.unusedVariables false
set_option linter.unusedSimpArgs false
namespace Go.Proofs.YtfhaoamlagnpjaaDoor
open Go.RowKit Go.Lib
theorem own_some {w : World} {base : Nat} {v : Value} {es : List ByteArray} (h : OwnT w base v es) (hne : es ≠ []) : ∃ g cap, v = .slice (some ⟨g, 0, none⟩) es.length cap ∧ base ≤ g ∧ g < w.heap.size ∧ es.length ≤ cap := by
  rcases h.form with ⟨_, he⟩ | h
  · exact absurd he hne
  · exact h
theorem linesL_set (es : List ByteArray) (x : ByteArray) : (linesL (es.set 0 x)).length ≤ (linesL es).length + x.size + 1 := by
  cases es with
  | nil => simp [linesL]
  | cons y r =>
    have hx : x.data.size = x.size := rfl
    simp [linesL]
    omega
theorem OwnT.store {w : World} {base g n cap : Nat} {es : List ByteArray} (h : OwnT w base (.slice (some ⟨g, 0, none⟩) n cap) es) (x : ByteArray) (hn : es ≠ []) : OwnT (w.setCell ⟨g, 0, none⟩ (.string x)) base (.slice (some ⟨g, 0, none⟩) n cap) (es.set 0 x) := by
  have hl : n = es.length := by
    rcases h.form with ⟨hv, he⟩ | ⟨g', cap', hv, _⟩
    · cases hv
    · injection hv
  subst hl
  have hs := (World.ownsRow.stored h 0 (.string x)).1
  unfold OwnT
  rw [List.length_set, List.map_set]
  exact hs
/-- What stands while the law runs: the argument, its copy, the own list. -/
def NT (w : World) (dB g cap : Nat) (c d : Array Value) (full : List ByteArray) (X : World) : Prop :=
  Below w.heap.size w X ∧ Blk X w.heap.size 34 c ∧ Blk X dB 34 d ∧ OwnT X (w.heap.size + 1) (.slice (some ⟨g, 0, none⟩) full.length cap) full
theorem NT.next {w : World} {dB g cap : Nat} {c d : Array Value} {full : List ByteArray} {X Y : World} (h : NT w dB g cap c d full X) (hb : Below X.heap.size X Y) : NT w dB g cap c d full Y :=
  ⟨h.1.trans (hb.mono h.1.size), h.2.1.below hb h.2.1.lt, h.2.2.1.below hb h.2.2.1.lt, h.2.2.2.below hb⟩
theorem NT.tabs {w : World} {dB g cap : Nat} {c d : Array Value} {full : List ByteArray} {X : World} (h : NT w dB g cap c d full X) {g3 g4 : Nat} (hT : Lib.Utf8Tabs g3 g4 w) : Lib.Utf8Tabs g3 g4 X :=
  Tabs.below hT h.1 (Tabs.lt3 hT) (Tabs.lt4 hT)
set_option maxRecDepth 100000 in
set_option maxHeartbeats 4000000 in
theorem lawText_any (o r : ByteArray) (n : Int) (v : Value) (es : List ByteArray) (w : World) (ho : o.size ≤ 1048576) (hrs : r.size ≤ 1048576) (hl : (linesL es).length ≤ 1048576) (hv : StrsAt w v es) (hT : Lib.Utf8Tabs 3 4 w) :
    Calls Tryd.prog 5 #[.agg #[.string o, .int .i64 n, .string r, v]] w fun e W' => e = .returned (.bool true) ∧ Below w.heap.size w W' := by
  have HT := hide hT; clear hT
  obtain ⟨A, c, hvv, -⟩ := id hv
  subst hvv
  have hnes : es.length ≤ 1048576 := Nat.le_trans (linesL_ge es) hl
  have HV := hide hv; clear hv
  go_enter Tryd.func5, Tryd.ntmps5
  go_wp2_with (first | (at_builtin; refine wpList_appT _ rfl (.const (.slice none 0 0)) (.tmp 12) rfl (OwnT.nil _ (w.heap.size + 1)) rfl ((unhide HV).alloc _) rfl (by simp; omega) (by simp) ?_; intro v1 w1 hO1 hg1 hat1; have H1 := hide (And.intro hO1 (And.intro hg1 hat1)); clear hO1 hg1 hat1) | (at_builtin; refine wpList_appT1 w1 rfl (.tmp 14) (.tmp 15) rfl (unhide H1).1 rfl rfl (by simp; omega) (by have := (unhide H1).2.1.size; simp at this; omega) ?_; intro v2 w2 hO2 hg2 hat2; obtain ⟨g, cap, rfl, hgb, hgl, hcap⟩ := own_some hO2 (by simp); have hC1 := (Blk.new w 34 #[.string o, .int .i64 n, .string r, .slice A es.length c]).grown (unhide H1).2.1 (by simp [Value.ownBlock]); have n1 : some w.heap.size ≠ v1.ownBlock := (fun e => by have := (World.ownsRow.lt (unhide H1).1 _ e.symm).1; omega); have hC2 := (hC1.alloc (.cells #[.string ⟨#[98, 101, 104, 105, 110, 100]⟩] 9)).grown hg2 n1; have hw1 : Below w.heap.size w w1 := ((Below.refl _ _).alloc (Nat.le_refl _) _).grown (unhide H1).2.1 (by simp) (fun k hk => by simp [Value.ownBlock] at hk); have hw2 : Below w.heap.size w w2 := (hw1.alloc hw1.size _).grown hg2 (by have := hw1.size; simp; omega) (fun k hk => by have := (World.ownsRow.lt (unhide H1).1 _ hk).1; omega); have k0 := hC2.cell 0; have k1 := hC2.cell 1; have k2 := hC2.cell 2; have k3 := hC2.cell 3; simp only [List.getElem?_toArray, List.getElem?_cons_zero, List.getElem?_cons_succ] at k0 k1 k2 k3; rw [List.nil_append] at hO2; have hcap' : es.length ≤ cap := (by simp at hcap; omega); clear hcap; have H2 := hide (And.intro hO2 (And.intro hw2 hC2)); clear hO2 hg2 hat2 hC1 hC2 n1 hw1 hw2))
  have hN3 : NT w w2.heap.size g cap #[.string o, .int .i64 n, .string r, .slice A es.length c] #[.string o, .int .i64 n, .string r, .slice (some ⟨g, 0, none⟩) es.length cap] (es ++ [⟨#[98, 101, 104, 105, 110, 100]⟩]) (w2.alloc (.cells #[.string o, .int .i64 n, .string r, .slice (some ⟨g, 0, none⟩) es.length cap] 34)) :=
    ⟨(unhide H2).2.1.alloc (unhide H2).2.1.size _, (unhide H2).2.2.alloc _, Blk.new _ _ _, (unhide H2).1.alloc _⟩
  generalize (w2.alloc (.cells #[.string o, .int .i64 n, .string r, .slice (some ⟨g, 0, none⟩) es.length cap] 34)) = w3 at *
  have hS3 := hN3.2.2.2.strs es.length cap (by simp)
  rw [List.take_left] at hS3
  have hcall := noteTx_any o r n _ es w3 (by omega) (by omega) (by omega) hS3 (hN3.tabs (unhide HT))
  obtain ⟨tx, tz, htv, htz⟩ := textV_form o n r es
  rw [htv] at hcall
  have HTV := Lib.hid htv; clear htv
  refine hcall.mono ?_
  rintro e w4 ⟨rfl, hb4⟩
  have hN4 := hN3.next hb4
  have hV4 : StrsAt w4 (.slice A es.length c) es := (unhide HV).below hN4.1
  have hcall2 := rnoteTx_any o r n _ es w4 (by omega) (by omega) (by omega) hV4
  rw [HTV.out] at hcall2
  have k0' := hN4.2.1.cell 0; have k1' := hN4.2.1.cell 1; have k2' := hN4.2.1.cell 2; have k3' := hN4.2.1.cell 3
  simp only [List.getElem?_toArray, List.getElem?_cons_zero, List.getElem?_cons_succ] at k0' k1' k2' k3'
  have HN4 := hide hN4; have HC2 := hide hcall2; clear hN3 hS3 hcall hb4 hN4 hV4 hcall2 k0 k1 k2 k3
  go_wp2_with fail
  refine (unhide HC2).mono ?_
  rintro e w5 ⟨rfl, hb5⟩
  have hN5 := (unhide HN4).next hb5
  have HN5 := hide hN5; clear hN5 hb5 HC2 k0' k1' k2' k3'
  go_wp2_with fail
  have k3' := (unhide HN5).2.1.cell 3
  simp only [List.getElem?_toArray, List.getElem?_cons_zero, List.getElem?_cons_succ] at k3'
  have cb := (unhide HN5).2.2.2.cell es.length (by simp)
  rw [List.getElem_append_right (Nat.le_refl _)] at cb
  simp only [Nat.sub_self, List.getElem_cons_zero] at cb
  have hlen1 : (es.length : Int) < (es.length : Int) + 1 := by omega
  have hS5 : StrsAt w5 (.slice (some ⟨g, 0, none⟩) es.length cap) es := by
    have h := (unhide HN5).2.2.2.strs es.length cap (by simp)
    rwa [List.take_left] at h
  have hV5 : StrsAt w5 (.slice A es.length c) es := (unhide HV).below (unhide HN5).1
  have hTX : ∀ n, Calls Tryd.prog 18 #[.slice (some ⟨g, 0, none⟩) es.length cap, .slice A es.length c] (w5.drewN n) fun e w' => e = .returned (.bool true) ∧ ∃ nd, w' = (w5.drewN n).drewN nd := fun n => texts_eq _ _ es (w5.drewN n) (by omega) hS5 hV5
  have HTX := hide hTX; clear hTX hS5 hV5
  go_quiet (first | (go_at_call 13; exact quiet_left (numl_any tz _ htz)) | (go_at_call 18; exact Calls.quiet_of (unhide HTX _)))
  clear k3' cb HTX
  rcases Nat.eq_zero_or_pos es.length with h0 | h0
  · go_wp2_with fail
    go_ret
    exact ⟨rfl, below_drewN (unhide HN5).1 nq⟩
  · have hne : ((es.length : Nat) : Int) ≠ 0 := by omega
    have hz : (((es.length : Nat) : Int) == 0) = false := by simpa using hne
    have hlenP : (0 : Int) < (es.length : Int) := by omega
    have hnil : es ++ [⟨#[98, 101, 104, 105, 110, 100]⟩] ≠ [] := by simp
    have hN5 : NT w w2.heap.size g cap #[.string o, .int .i64 n, .string r, .slice A es.length c] #[.string o, .int .i64 n, .string r, .slice (some ⟨g, 0, none⟩) es.length cap] (es ++ [⟨#[98, 101, 104, 105, 110, 100]⟩]) (w5.drewN nq) := (unhide HN5).next (below_drewN (Below.refl _ _) nq)
    have c00 : ∃ x0, (w5.drewN nq).cell? ⟨g, 0, none⟩ = some (.string x0) := ⟨_, hN5.2.2.2.cell 0 (by simp)⟩
    obtain ⟨x0, c00⟩ := c00
    have f00 := World.ownsRow.frozenAt hN5.2.2.2 0
    have d0 := hN5.2.2.1.cell 0; have d1 := hN5.2.2.1.cell 1; have d2 := hN5.2.2.1.cell 2; have d3 := hN5.2.2.1.cell 3
    simp only [List.getElem?_toArray, List.getElem?_cons_zero, List.getElem?_cons_succ] at d0 d1 d2 d3
    have hN6 : NT w w2.heap.size g cap #[.string o, .int .i64 n, .string r, .slice A es.length c] #[.string o, .int .i64 n, .string r, .slice (some ⟨g, 0, none⟩) es.length cap] ((es ++ [(⟨#[98, 101, 104, 105, 110, 100]⟩ : ByteArray)]).set 0 (⟨#[97, 110, 111, 116, 104, 101, 114, 32, 108, 105, 110, 101]⟩ : ByteArray)) ((w5.drewN nq).setCell ⟨g, 0, none⟩ (.string ⟨#[97, 110, 111, 116, 104, 101, 114, 32, 108, 105, 110, 101]⟩)) := by
      refine ⟨hN5.1.setCell (by show w.heap.size ≤ g; omega) _, hN5.2.1.far (p := ⟨g, 0, none⟩) (by show w.heap.size ≠ g; omega) _, hN5.2.2.1.far (p := ⟨g, 0, none⟩) (by show w2.heap.size ≠ g; omega) _, ?_⟩
      rw [List.length_set]
      exact hN5.2.2.2.store _ hnil
    have HN6 := hide hN6; have HN5' := hide hN5; clear hN6 hN5
    go_wp2_with fail
    generalize ((w5.drewN nq).setCell ⟨g, 0, none⟩ (.string ⟨#[97, 110, 111, 116, 104, 101, 114, 32, 108, 105, 110, 101]⟩)) = w6 at *
    have hls := linesL_set es ⟨#[97, 110, 111, 116, 104, 101, 114, 32, 108, 105, 110, 101]⟩
    rw [show (⟨#[97, 110, 111, 116, 104, 101, 114, 32, 108, 105, 110, 101]⟩ : ByteArray).size = 12 from rfl] at hls
    have hN6 := unhide HN6
    rw [List.set_append_left _ _ h0] at hN6
    generalize hes2 : es.set 0 (⟨#[97, 110, 111, 116, 104, 101, 114, 32, 108, 105, 110, 101]⟩ : ByteArray) = es2 at hN6 hls
    have hl2 : es2.length = es.length := by rw [← hes2, List.length_set]
    have hS6 := hN6.2.2.2.strs es2.length cap (by simp)
    rw [List.take_left, hl2] at hS6
    have hcall := noteTx_any o r n _ es2 w6 (by omega) (by omega) (by omega) hS6 (hN6.tabs (unhide HT))
    obtain ⟨ux, uz, huv, huz⟩ := textV_form o n r es2
    rw [huv] at hcall
    have HUV := Lib.hid huv; clear huv
    refine hcall.mono ?_
    rintro e w7 ⟨rfl, hb7⟩
    have hN7 := hN6.next hb7
    have hS7 := hN7.2.2.2.strs es2.length cap (by simp)
    rw [List.take_left, hl2] at hS7
    have hcall2 := rnoteTx_any o r n _ es2 w7 (by omega) (by omega) (by omega) hS7
    rw [HUV.out] at hcall2
    have m0 := hN7.2.2.1.cell 0; have m1 := hN7.2.2.1.cell 1; have m2 := hN7.2.2.1.cell 2; have m3 := hN7.2.2.1.cell 3
    simp only [List.getElem?_toArray, List.getElem?_cons_zero, List.getElem?_cons_succ] at m0 m1 m2 m3
    have HN7 := hide hN7; have HC7 := hide hcall2; clear hN6 hS6 hcall hb7 hN7 hS7 hcall2 d0 d1 d2 d3 c00 f00
    go_wp2_with fail
    refine (unhide HC7).mono ?_
    rintro e w8 ⟨rfl, hb8⟩
    have hN8 := (unhide HN7).next hb8
    have HN8 := hide hN8; clear hN8 hb8 HC7 m0 m1 m2 m3
    go_wp2_with fail
    refine (numl_any uz w8 huz).mono ?_
    rintro e w9 ⟨rfl, rfl⟩
    go_wp2_with fail
    go_ret
    exact ⟨rfl, (unhide HN8).1⟩
set_option maxRecDepth 100000 in
theorem noteText_walk {H : Type} {enc : TypeId × Value → H} (W : World) (base : Nat) (v0 : Value) (d0 : DataW H) (p0 : List MemPlace) (o0 : Value.okWide Tryd.prog W .any base 34 v0) (h0 : DataW.Trod enc Tryd.prog W 0 (fun _ => true) true 34 v0 d0 p0) (l0 : ∀ x ∈ p0, x.block < W.heap.size) (hz : (DataW.weightsEach Tryd.prog [34] ([d0] : List (DataW H))).all (· ≤ reachBytes) = true) (hk : Rows.uptoBulkAll ([d0] : List (DataW H)) ≤ 1048576) (hL : laidMetH Tryd.prog Rows.noteTextUptoRow.laid W) (hsh : W.ShapedOpen Tryd.prog) :
    Calls Tryd.prog 5 #[v0] W fun e W' => e = .returned (.bool true) ∧ Below W.heap.size W W' := by
  have hT := utf8_of (laidMet_plain (by kernel_rfl) hL) (.tail _ (.head _)) (.head _)
  obtain ⟨o, n, r, v, es, rfl, hv, hb⟩ := open_cp o0 h0
  simp only [Rows.uptoBulkAll] at hk
  exact lawText_any o r n v es W (by omega) (by omega) (by omega) hv hT
end Go.Proofs.YtfhaoamlagnpjaaDoor

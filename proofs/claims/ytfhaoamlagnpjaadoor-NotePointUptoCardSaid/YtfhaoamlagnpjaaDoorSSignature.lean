/-
  CONTRACTS of package note and of the document's answer for it: the signature of a key for a text.
-/
import Derived.Test.YtfhaoamlagnpjaaDoorRows
import Derived.Laws.Rows
import Derived.Deep.RegionHeld3
import Derived.Test.YtfhaoamlagnpjaaDoorGBase
import Derived.Test.YtfhaoamlagnpjaaDoorGMacs
import Derived.Test.YtfhaoamlagnpjaaDoorGSigs
set_option linter.unusedVariables false
set_option linter.unusedSimpArgs false
namespace Go.Proofs.YtfhaoamlagnpjaaDoor
open Go.RowKit Go.Lib
/-- The signature of a key for a text. -/
def sigOf (n s t : ByteArray) : SigR := ⟨n, ⟨(keyIDL n.data.toList s.data.toList).toArray⟩, ⟨(macL s.data.toList t.data.toList).toArray⟩⟩
theorem sigOf_id (n s t : ByteArray) : (sigOf n s t).id.size = 4 := by
  show (keyIDL n.data.toList s.data.toList).toArray.size = 4
  rw [List.size_toArray, keyIDL_length]
theorem sigOf_mc (n s t : ByteArray) : (sigOf n s t).mc.size = 32 := by
  show (macL s.data.toList t.data.toList).toArray.size = 32
  rw [List.size_toArray, macL_length]
/-- The tables that the program's sum reads, and the document's. -/
def PTab (w : World) : Prop := TabOk w ∧ BeginOk w
def RTab (w : World) : Prop := TabOkR w ∧ FirstOk w
theorem PTab.next {w w' : World} (h : PTab w) (hb : Below w.heap.size w w') : PTab w' := ⟨h.1.below hb h.1.lt, h.2.below hb (World.block_lt_of_cell? w _ (h.2 0 (by omega)))⟩
theorem RTab.next {w w' : World} (h : RTab w) (hb : Below w.heap.size w w') : RTab w' := ⟨h.1.below hb (World.block_lt_of_cell? w _ (h.1 0 (by omega))), h.2.below hb (World.block_lt_of_cell? w _ (h.2 0 (by omega)))⟩
theorem PTab.alloc {w : World} (h : PTab w) (o : Obj) : PTab (w.alloc o) := h.next ((Below.refl _ _).alloc (Nat.le_refl _) o)
theorem RTab.alloc {w : World} (h : RTab w) (o : Obj) : RTab (w.alloc o) := h.next ((Below.refl _ _).alloc (Nat.le_refl _) o)
theorem PTab.drew {w : World} (h : PTab w) : PTab w.drew := h
theorem RTab.drew {w : World} (h : RTab w) : RTab w.drew := h
theorem blk3_store {w : World} {g : Nat} {t : TypeId} {a b c : Value} (h : Blk w g t #[a, b, c]) (a' b' c' : Value) : Blk (((w.setCell ⟨g, 0, none⟩ a').setCell ⟨g, 1, none⟩ b').setCell ⟨g, 2, none⟩ c') g t #[a', b', c'] := by
  have h2 := ((h.set_ 0 a').set_ 1 b').set_ 2 c'
  simpa using h2
theorem below3_store {B : Nat} {a w : World} {g : Nat} (h : Below B a w) (hg : B ≤ g) (a' b' c' : Value) : Below B a (((w.setCell ⟨g, 0, none⟩ a').setCell ⟨g, 1, none⟩ b').setCell ⟨g, 2, none⟩ c') :=
  ((h.setCell (p := ⟨g, 0, none⟩) hg a').setCell (p := ⟨g, 1, none⟩) hg b').setCell (p := ⟨g, 2, none⟩) hg c'
set_option maxRecDepth 100000 in
set_option maxHeartbeats 4000000 in
theorem sign_any2 (n s t : ByteArray) (w : World) (hn : n.size ≤ 1099511627776) (hs : s.size ≤ 1099511627776) (ht : t.size ≤ 1099511627776) (hT : PTab w) :
    Calls Tryd.prog 59 #[.agg #[.string n, .string s], .string t] w fun e w' => e = .returned (sigV (sigOf n s t)) ∧ Below w.heap.size w w' := by
  have hk := fun W (h : PTab W) => keyID_any n s W (by omega) (by omega) h.1 h.2
  have hm := fun W (h : PTab W) => mac_any s t W (by omega) (by omega) h.1 h.2
  have hv : Hid (sigV (sigOf n s t) = .agg #[.string n, .string ⟨(keyIDL n.data.toList s.data.toList).toArray⟩, .string ⟨(macL s.data.toList t.data.toList).toArray⟩]) := rfl
  obtain ⟨I, hI⟩ : ∃ I, Hid ((⟨(keyIDL n.data.toList s.data.toList).toArray⟩ : ByteArray) = I) := ⟨_, Lib.hid rfl⟩
  obtain ⟨M, hM⟩ : ∃ M, Hid ((⟨(macL s.data.toList t.data.toList).toArray⟩ : ByteArray) = M) := ⟨_, Lib.hid rfl⟩
  rw [hI.out] at hk hv
  rw [hM.out] at hm hv
  have HK := hide hk; have HM := hide hm; have HT := hide hT; clear hk hm hT
  go_enter Tryd.func59, Tryd.ntmps59
  go_wp2_with fail
  have hK0 : Blk ((w.alloc (.cells #[.string n, .string s] 27)).alloc (.cells #[.string ⟨#[]⟩, .string ⟨#[]⟩, .string ⟨#[]⟩] 71)) w.heap.size 27 #[.string n, .string s] := (Blk.new w _ _).alloc _
  have hR0 : Blk ((w.alloc (.cells #[.string n, .string s] 27)).alloc (.cells #[.string ⟨#[]⟩, .string ⟨#[]⟩, .string ⟨#[]⟩] 71)) (w.heap.size + 1) 71 #[.string ⟨#[]⟩, .string ⟨#[]⟩, .string ⟨#[]⟩] := by
    have h := Blk.new (w.alloc (.cells #[.string n, .string s] 27)) 71 #[.string ⟨#[]⟩, .string ⟨#[]⟩, .string ⟨#[]⟩]
    simpa using h
  have hb0 : Below w.heap.size w ((w.alloc (.cells #[.string n, .string s] 27)).alloc (.cells #[.string ⟨#[]⟩, .string ⟨#[]⟩, .string ⟨#[]⟩] 71)) := ((Below.refl _ _).alloc (Nat.le_refl _) _).alloc (by simp) _
  have hT0 : PTab ((w.alloc (.cells #[.string n, .string s] 27)).alloc (.cells #[.string ⟨#[]⟩, .string ⟨#[]⟩, .string ⟨#[]⟩] 71)) := ((unhide HT).alloc _).alloc _
  generalize ((w.alloc (.cells #[.string n, .string s] 27)).alloc (.cells #[.string ⟨#[]⟩, .string ⟨#[]⟩, .string ⟨#[]⟩] 71)) = w0 at *
  have k0 := hK0.cell 0; have k1 := hK0.cell 1
  simp only [List.getElem?_toArray, List.getElem?_cons_zero, List.getElem?_cons_succ] at k0 k1
  have H0 := hide (And.intro hK0 (And.intro hR0 (And.intro hb0 hT0))); clear hK0 hR0 hb0 hT0
  go_region_held3 (fun W => W.cell? ⟨w.heap.size, 0, none⟩ = some (.string n) ∧ W.cell? ⟨w.heap.size, 1, none⟩ = some (.string s)) (first | (refine ⟨?_, ?_⟩ <;> assumption) | go_keep) (first | (go_at_call 39; refine (unhide HK _ (unhide H0).2.2.2.drew).mono ?_; rintro e w1 ⟨rfl, hb1⟩; have hK1 := (unhide H0).1.drew.below hb1 (unhide H0).1.lt; have hT1 := (unhide H0).2.2.2.drew.next hb1; have hR1 := (unhide H0).2.1.drew.below hb1 (unhide H0).2.1.lt; have k10 := hK1.cell 0; have k11 := hK1.cell 1; simp only [List.getElem?_toArray, List.getElem?_cons_zero, List.getElem?_cons_succ] at k10 k11) | (go_at_call 69; refine (unhide HM _ hT1).mono ?_; rintro e w2 ⟨rfl, hb2⟩; have hK2 := hK1.below hb2 hK1.lt; have hR2 := hR1.below hb2 hR1.lt; have k20 := hK2.cell 0; have k21 := hK2.cell 1; have r0 := hR2.cell 0; have r1 := hR2.cell 1; have r2 := hR2.cell 2; have f0 := hR2.frozen 0; have f1 := hR2.frozen 1; have f2 := hR2.frozen 2; simp only [List.getElem?_toArray, List.getElem?_cons_zero, List.getElem?_cons_succ] at k20 k21 r0 r1 r2))
  have hB3 := blk3_store hR2 (.string n) (.string I) (.string M)
  have hb3 : Below w.heap.size w (((w2.setCell ⟨w.heap.size + 1, 0, none⟩ (.string n)).setCell ⟨w.heap.size + 1, 1, none⟩ (.string I)).setCell ⟨w.heap.size + 1, 2, none⟩ (.string M)) :=
    below3_store (((unhide H0).2.2.1.drew.trans (hb1.mono (unhide H0).2.2.1.size)).trans (hb2.mono (Nat.le_trans (unhide H0).2.2.1.size hb1.size))) (Nat.le_succ _) _ _ _
  have H3 := hide (And.intro hB3 hb3)
  clear hB3 hb3 hb1 hb2 hK1 hK2 hR1 hR2 hT1 k10 k11 k20 k21 r0 r1 r2 f0 f1 f2 k0 k1
  go_wp2_with fail
  (try simp only [Exit.inBlock, Exit.then])
  refine bodyPost_ret (results_cell_row rfl _ _ (w.heap.size + 1) 71 _ (0, 0) _ rfl (unhide H3).1 Tryd.underlying71 rfl (by kernel_rfl)) rfl ?_
  exact ⟨by rw [hv.out], (unhide H3).2⟩
set_option maxRecDepth 100000 in
set_option maxHeartbeats 4000000 in
theorem rsign_any (n s t : ByteArray) (w : World) (hn : n.size ≤ 1099511627776) (hs : s.size ≤ 1099511627776) (ht : t.size ≤ 1099511627776) (hT : RTab w) :
    Calls Tryd.prog 63 #[.agg #[.string n, .string s], .string t] w fun e w' => e = .returned (sigV (sigOf n s t)) ∧ Below w.heap.size w w' := by
  have hk := fun W (h : RTab W) => rkeyID_any n s W (by omega) (by omega) h.1 h.2
  have hm := fun W (h : RTab W) => rmac_any s t W (by omega) (by omega) h.1 h.2
  have hv : Hid (sigV (sigOf n s t) = .agg #[.string n, .string ⟨(keyIDL n.data.toList s.data.toList).toArray⟩, .string ⟨(macL s.data.toList t.data.toList).toArray⟩]) := rfl
  obtain ⟨I, hI⟩ : ∃ I, Hid ((⟨(keyIDL n.data.toList s.data.toList).toArray⟩ : ByteArray) = I) := ⟨_, Lib.hid rfl⟩
  obtain ⟨M, hM⟩ : ∃ M, Hid ((⟨(macL s.data.toList t.data.toList).toArray⟩ : ByteArray) = M) := ⟨_, Lib.hid rfl⟩
  rw [hI.out] at hk hv
  rw [hM.out] at hm hv
  have HK := hide hk; have HM := hide hm; have HT := hide hT; clear hk hm hT
  go_enter Tryd.func63, Tryd.ntmps63
  go_wp2_with fail
  have hK0 : Blk ((w.alloc (.cells #[.string n, .string s] 27)).alloc (.cells #[.string ⟨#[]⟩, .string ⟨#[]⟩, .string ⟨#[]⟩] 71)) w.heap.size 27 #[.string n, .string s] := (Blk.new w _ _).alloc _
  have hR0 : Blk ((w.alloc (.cells #[.string n, .string s] 27)).alloc (.cells #[.string ⟨#[]⟩, .string ⟨#[]⟩, .string ⟨#[]⟩] 71)) (w.heap.size + 1) 71 #[.string ⟨#[]⟩, .string ⟨#[]⟩, .string ⟨#[]⟩] := by
    have h := Blk.new (w.alloc (.cells #[.string n, .string s] 27)) 71 #[.string ⟨#[]⟩, .string ⟨#[]⟩, .string ⟨#[]⟩]
    simpa using h
  have hb0 : Below w.heap.size w ((w.alloc (.cells #[.string n, .string s] 27)).alloc (.cells #[.string ⟨#[]⟩, .string ⟨#[]⟩, .string ⟨#[]⟩] 71)) := ((Below.refl _ _).alloc (Nat.le_refl _) _).alloc (by simp) _
  have hT0 : RTab ((w.alloc (.cells #[.string n, .string s] 27)).alloc (.cells #[.string ⟨#[]⟩, .string ⟨#[]⟩, .string ⟨#[]⟩] 71)) := ((unhide HT).alloc _).alloc _
  generalize ((w.alloc (.cells #[.string n, .string s] 27)).alloc (.cells #[.string ⟨#[]⟩, .string ⟨#[]⟩, .string ⟨#[]⟩] 71)) = w0 at *
  have k0 := hK0.cell 0; have k1 := hK0.cell 1
  simp only [List.getElem?_toArray, List.getElem?_cons_zero, List.getElem?_cons_succ] at k0 k1
  have H0 := hide (And.intro hK0 (And.intro hR0 (And.intro hb0 hT0))); clear hK0 hR0 hb0 hT0
  go_region_held3 (fun W => W.cell? ⟨w.heap.size, 0, none⟩ = some (.string n) ∧ W.cell? ⟨w.heap.size, 1, none⟩ = some (.string s)) (first | (refine ⟨?_, ?_⟩ <;> assumption) | go_keep) (first | (go_at_call 41; refine (unhide HK _ (unhide H0).2.2.2.drew).mono ?_; rintro e w1 ⟨rfl, hb1⟩; have hK1 := (unhide H0).1.drew.below hb1 (unhide H0).1.lt; have hT1 := (unhide H0).2.2.2.drew.next hb1; have hR1 := (unhide H0).2.1.drew.below hb1 (unhide H0).2.1.lt; have k10 := hK1.cell 0; have k11 := hK1.cell 1; simp only [List.getElem?_toArray, List.getElem?_cons_zero, List.getElem?_cons_succ] at k10 k11) | (go_at_call 72; refine (unhide HM _ hT1).mono ?_; rintro e w2 ⟨rfl, hb2⟩; have hK2 := hK1.below hb2 hK1.lt; have hR2 := hR1.below hb2 hR1.lt; have k20 := hK2.cell 0; have k21 := hK2.cell 1; have r0 := hR2.cell 0; have r1 := hR2.cell 1; have r2 := hR2.cell 2; have f0 := hR2.frozen 0; have f1 := hR2.frozen 1; have f2 := hR2.frozen 2; simp only [List.getElem?_toArray, List.getElem?_cons_zero, List.getElem?_cons_succ] at k20 k21 r0 r1 r2))
  have hB3 := blk3_store hR2 (.string n) (.string I) (.string M)
  have hb3 : Below w.heap.size w (((w2.setCell ⟨w.heap.size + 1, 0, none⟩ (.string n)).setCell ⟨w.heap.size + 1, 1, none⟩ (.string I)).setCell ⟨w.heap.size + 1, 2, none⟩ (.string M)) :=
    below3_store (((unhide H0).2.2.1.drew.trans (hb1.mono (unhide H0).2.2.1.size)).trans (hb2.mono (Nat.le_trans (unhide H0).2.2.1.size hb1.size))) (Nat.le_succ _) _ _ _
  have H3 := hide (And.intro hB3 hb3)
  clear hB3 hb3 hb1 hb2 hK1 hK2 hR1 hR2 hT1 k10 k11 k20 k21 r0 r1 r2 f0 f1 f2 k0 k1
  go_wp2_with fail
  (try simp only [Exit.inBlock, Exit.then])
  refine bodyPost_ret (results_cell_row rfl _ _ (w.heap.size + 1) 71 _ (0, 0) _ rfl (unhide H3).1 Tryd.underlying71 rfl (by kernel_rfl)) rfl ?_
  exact ⟨by rw [hv.out], (unhide H3).2⟩
end Go.Proofs.YtfhaoamlagnpjaaDoor

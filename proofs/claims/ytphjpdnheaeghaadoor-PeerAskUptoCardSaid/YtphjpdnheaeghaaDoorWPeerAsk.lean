/-
  WALK of PeerAsk: every request written, every text read; what was handed in is as it was; the lists that are answered are new memory.
-/
import Derived.Test.YtphjpdnheaeghaaDoorRows
import Derived.Test.YtphjpdnheaeghaaDoorWd
import Derived.Test.YtphjpdnheaeghaaDoorPAsk
import Derived.Test.YtphjpdnheaeghaaDoorPAsked
import Derived.Test.YtphjpdnheaeghaaDoorRAsked
import Derived.Test.YtphjpdnheaeghaaDoorSameQ
import Derived.Test.YtphjpdnheaeghaaDoorOpenQ
import Derived.Test.YtphjpdnheaeghaaDoorAskRd
import Derived.ChangeMaps
set_option linter.unusedVariables false
set_option linter.unusedSimpArgs false
namespace Go.Proofs.YtphjpdnheaeghaaDoor
open Go.RowKit Go.Lib
/-- The argument's box, the copy's box, the copy's list. -/
structure PkX (w W : World) (old : Int) (vp vq : Value) (nt : ByteArray) (v : Value) (L : List ByteArray) : Prop where
  b : Below w.heap.size w W
  x : Blk W w.heap.size 24 (rqC old vp nt)
  y : Blk W (w.heap.size + 1) 24 (rqC old vq nt)
  o : OwnT W (w.heap.size + 2) v L
theorem PkX.call {w W W' : World} {old : Int} {vp vq v : Value} {nt : ByteArray} {L : List ByteArray} (h : PkX w W old vp vq nt v L) (hb : Below W.heap.size W W') : PkX w W' old vp vq nt v L :=
  ⟨h.b.trans (hb.mono h.b.size), h.x.below hb h.x.lt, h.y.below hb h.y.lt, h.o.below hb⟩
theorem PkX.put {w W : World} {old : Int} {vp vq v : Value} {nt : ByteArray} {L : List ByteArray} (h : PkX w W old vp vq nt v L) (u : Value) : PkX w (W.setCell ⟨w.heap.size + 1, 1, none⟩ u) old vp u nt v L := by
  refine ⟨h.b.setCell (p := ⟨w.heap.size + 1, 1, none⟩) (by show w.heap.size ≤ w.heap.size + 1; omega) _, Blk.far (p := ⟨w.heap.size + 1, 1, none⟩) h.x (by simp) _, ?_, row_store_neQ h.o (own_blk_ne h.o h.y (by decide)) _⟩
  have h2 := h.y.set_ 1 u
  simpa [rqC] using h2
theorem PkX.app {w W W' : World} {old : Int} {vp vq v v' : Value} {nt : ByteArray} {L L' : List ByteArray} (h : PkX w W old vp vq nt v L) (hO : OwnT W' (w.heap.size + 2) v' L') (hg : W.grownBy W' v.ownBlock) : PkX w W' old vp vq nt v' L' :=
  ⟨h.b.grown hg h.b.size (fun k hk => by have := (World.ownsRow.lt h.o k hk).1; omega), h.x.grown hg (fun e => own_blk_ne h.o h.x (by decide) e.symm), h.y.grown hg (fun e => own_blk_ne h.o h.y (by decide) e.symm), hO⟩
theorem PkX.alloc {w W : World} {old : Int} {vp vq v : Value} {nt : ByteArray} {L : List ByteArray} (h : PkX w W old vp vq nt v L) (ob : Obj) : PkX w (W.alloc ob) old vp vq nt v L :=
  ⟨h.b.alloc h.b.size _, h.x.alloc _, h.y.alloc _, h.o.alloc _⟩
theorem PkX.lo {w W : World} {old : Int} {vp vq v : Value} {nt : ByteArray} {L : List ByteArray} (h : PkX w W old vp vq nt v L) : w.heap.size + 2 ≤ W.heap.size := by have := h.y.lt; omega
theorem PkX.set {w W : World} {old : Int} {vp vq : Value} {nt : ByteArray} {g n cap : Nat} {L : List ByteArray} (h : PkX w W old vp vq nt (.slice (some ⟨g, 0, none⟩) n cap) L) (hL : L.length = n) (j : Nat) (hj : j < n) (z : ByteArray) : PkX w (W.setCell ⟨g, j, none⟩ (.string z)) old vp vq nt (.slice (some ⟨g, 0, none⟩) n cap) (L.set j z) := by
  have hg := (World.ownsRow.lt h.o g rfl).1
  exact ⟨h.b.setCell (p := ⟨g, j, none⟩) (by show w.heap.size ≤ g; omega) _, Blk.far (p := ⟨g, j, none⟩) h.x (by show w.heap.size ≠ g; omega) _, Blk.far (p := ⟨g, j, none⟩) h.y (by show w.heap.size + 1 ≠ g; omega) _, h.o.setQ hL j hj z⟩
theorem PkX.strs {w W : World} {old : Int} {vp vq : Value} {nt : ByteArray} {g n cap : Nat} {L : List ByteArray} (h : PkX w W old vp vq nt (.slice (some ⟨g, 0, none⟩) (n + 1) cap) L) (hL : L.length = n + 1) : StrsAt W (.slice (some ⟨g, 0, none⟩) n cap) (L.take n) := by
  have ht : (L.take n).length = n := by rw [List.length_take]; omega
  refine ⟨_, cap, by rw [ht], fun j hj => ⟨_, rfl, ?_⟩⟩
  rw [ht] at hj
  have hadd : (⟨g, 0, none⟩ : Addr).add j = ⟨g, j, none⟩ := by unfold Addr.add; split <;> simp_all
  rw [hadd, (h.o.atQ hL j (by omega)).1]
  simp
theorem PkX.new {w : World} {old : Int} {vp vq : Value} {nt : ByteArray} : PkX w ((w.alloc (.cells (rqC old vp nt) 24)).alloc (.cells (rqC old vq nt) 24)) old vp vq nt (.slice none 0 0) [] := by
  refine ⟨((Below.refl _ _).alloc (Nat.le_refl _) _).alloc (by simp) _, (Blk.new _ _ _).alloc _, ?_, OwnT.nil _ _⟩
  have h := Blk.new (w.alloc (.cells (rqC old vp nt) 24)) 24 (rqC old vq nt)
  simpa using h
/-- The copy, as far as it is written again. -/
def CpI (S L : List ByteArray) (j : Nat) : Prop := L.length = S.length + 1 ∧ (∀ q, q < j → L[q]? = S[q]?) ∧ L[S.length]? = some ⟨#[109, 97, 114, 107]⟩
theorem CpI.start (S : List ByteArray) : CpI S (S ++ [⟨#[109, 97, 114, 107]⟩]) 0 := ⟨by simp, fun q hq => absurd hq (by omega), by simp⟩
theorem CpI.put {S L : List ByteArray} (h : CpI S L 0) {j : Nat} (hj : j < S.length) (x : ByteArray) : CpI S (L.set j x) 0 :=
  ⟨by rw [List.length_set]; exact h.1, fun q hq => absurd hq (by omega), by rw [List.getElem?_set_ne (by omega)]; exact h.2.2⟩
theorem CpI.next {S L : List ByteArray} {j : Nat} (h : CpI S L j) (hj : j < S.length) : CpI S (L.set j S[j]) (j + 1) := by
  have hl := h.1
  refine ⟨by rw [List.length_set]; exact h.1, fun q hq => ?_, by rw [List.getElem?_set_ne (by omega)]; exact h.2.2⟩
  by_cases e : q = j
  · subst e
    rw [List.getElem?_set_self (by omega), List.getElem?_eq_getElem hj]
  · rw [List.getElem?_set_ne (by omega)]
    exact h.2.1 q (by omega)
theorem CpI.all {S L : List ByteArray} (h : CpI S L S.length) : L.take S.length = S := by
  apply List.ext_getElem?
  intro q
  rw [List.getElem?_take]
  split
  · exact h.2.1 q (by assumption)
  · rw [List.getElem?_eq_none (by omega)]
set_option maxRecDepth 100000 in
set_option maxHeartbeats 4000000 in
theorem lawPeerAsk_any (old : Int) (S : List ByteArray) (nt : ByteArray) (vp : Value) (b : ByteArray) (w : World) (hS : StrsAt w vp S) (hin : In64P old) (hn : S.length ≤ 1048577) (hnt : nt.size ≤ 1048577) (hb : b.size ≤ 1048577) (hM : MaxK w) :
    Calls Tryd.prog 3 #[.agg #[.int .i64 old, vp, .string nt], .string b] w fun e w' => e = .returned (.bool true) ∧ Below w.heap.size w w' := by
  obtain ⟨A, c, rfl, -⟩ := id hS
  have hx0 : PkX w ((w.alloc (.cells (rqC old (.slice A S.length c) nt) 24)).alloc (.cells (rqC old (.slice none 0 0) nt) 24)) old (.slice A S.length c) (.slice none 0 0) nt (.slice none 0 0) [] := PkX.new
  have H0 := hide hx0; have HS := hide hS; have HM := hide hM; have HIN := hide hin
  clear hx0 hS hM hin
  go_enter Tryd.func3, Tryd.ntmps3
  go_upto_region 3 with fail
  have x1 := (unhide H0).x.cell 1; have y1 := (unhide H0).y.cell 1
  simp only [rqC, List.getElem?_toArray, List.getElem?_cons_zero, List.getElem?_cons_succ] at x1 y1
  have hS1 := (unhide HS).below (unhide H0).b
  have hlo := (unhide H0).lo
  have HS1 := hide hS1; have HLO := hide hlo; clear hS1 hlo
  unfold rqC at H0 HS1 HLO
  generalize ((w.alloc (.cells #[.int .i64 old, .slice A S.length c, .string nt] 24)).alloc (.cells #[.int .i64 old, .slice none 0 0, .string nt] 24)) = w1 at *
  go_upto_region 4 with (at_builtin; go_must (refine wpList_appT w1 rfl _ _ rfl (unhide H0).o rfl (unhide HS1) rfl (by simp; omega) (unhide HLO) ?_); intro v2 w2 hO2 hg2 hat2; rw [List.nil_append] at hO2; obtain ⟨A2, c2, rfl, -⟩ := id (ownT_strsQ hO2); have hP2 := (unhide H0).app hO2 hg2; have k1 := hP2.y.cell 1; have f1 := hP2.y.frozen 1; simp only [rqC, List.getElem?_toArray, List.getElem?_cons_zero, List.getElem?_cons_succ] at k1;  have H2 := hide (hP2.put (.slice A2 S.length c2)); clear hO2 hg2 hat2 hP2)
  have y1 := (unhide H2).y.cell 1
  simp only [rqC, List.getElem?_toArray, List.getElem?_cons_zero, List.getElem?_cons_succ] at y1
  have hlo := (unhide H2).lo
  have HLO2 := hide hlo; clear hlo HS1 HLO H0 x1
  generalize (w2.setCell ⟨w.heap.size + 1, 1, none⟩ (.slice A2 S.length c2)) = w3 at *
  clear f1 k1
  have hl1 : Hid ((S ++ [(⟨#[109, 97, 114, 107]⟩ : ByteArray)]).length = S.length + 1) := Lib.hid (by simp)
  go_upto_region 5 with (at_builtin; go_must (refine wpList_appT1 w3 rfl _ _ rfl (unhide H2).o rfl rfl (by omega) (unhide HLO2) ?_); intro v4 w4 hO4 hg4 hat4; obtain ⟨g, cap, rfl, hgb, hO3, hcp⟩ := own_sliceT_ne hO4 (by simp); rw [hl1.out] at hcp hO4 ⊢; have hP4 := ((unhide H2).alloc _).app hO4 hg4; have k1 := hP4.y.cell 1; have f1 := hP4.y.frozen 1; simp only [rqC, List.getElem?_toArray, List.getElem?_cons_zero, List.getElem?_cons_succ] at k1;  have H4 := hide (hP4.put (.slice (some ⟨g, 0, none⟩) (S.length + 1) cap)); clear hO4 hg4 hat4 hP4 hO3)
  have x1 := (unhide H4).x.cell 1; have y1 := (unhide H4).y.cell 1; have f1 := (unhide H4).y.frozen 1
  simp only [rqC, List.getElem?_toArray, List.getElem?_cons_zero, List.getElem?_cons_succ] at x1 y1
  generalize (w4.setCell ⟨w.heap.size + 1, 1, none⟩ (.slice (some ⟨g, 0, none⟩) (S.length + 1) cap)) = w5 at *
  have hcl : (S.length : Int) ≤ (cap : Int) := by omega
  have hcl2 : S.length ≤ cap := by omega
  clear H2 HLO2
  have H5 := hide ((unhide H4).put (.slice (some ⟨g, 0, none⟩) S.length cap))
  go_wp2_with fail
  have y1 := (unhide H5).y.cell 1
  generalize (w5.setCell ⟨w.heap.size + 1, 1, none⟩ (.slice (some ⟨g, 0, none⟩) S.length cap)) = w6 at *
  clear x1 k1 f1 H4 y1
  obtain ⟨vq, hvq⟩ : ∃ v, Hid (Value.slice (some ⟨g, 0, none⟩) S.length cap = v) := ⟨_, Lib.hid rfl⟩
  go_loopw [8] (fun i W => ∃ (j : Nat) (L : List ByteArray), i = .int .i64 (j : Int) ∧ j ≤ S.length ∧ Hid (CpI S L 0) ∧ PkX w W old (.slice A S.length c) (.slice (some ⟨g, 0, none⟩) S.length cap) nt (.slice (some ⟨g, 0, none⟩) (S.length + 1) cap) L) (fun i _ => S.length - (RowKit.intOf i).toNat)
  case atStart => exact ⟨0, _, rfl, Nat.zero_le _, Lib.hid (CpI.start S), unhide H5⟩
  case round =>
    obtain ⟨j, L, rfl, hj, hC, hX⟩ := hrel
    clear H5
    have t0 : (0 : Int) ≤ (j : Int) := by omega
    rcases Nat.lt_or_ge j S.length with hlt | hge
    · have t1 : (j : Int) < (S.length : Int) := by omega
      have t2 : (j : Int) < ((S.length + 1 : Nat) : Int) := by omega
      have qb : j ≤ 1048577 := by omega
      obtain ⟨c0, f0⟩ := hX.o.atQ hC.out.1 j (by omega)
      have hC2 := Lib.hid (hC.out.put hlt ⟨#[48, 49, 50, 51, 52, 53, 54, 55, 56, 57, 97, 98, 99, 100, 101, 102]⟩)
      have hX2 := hX.set hC.out.1 j (by omega) ⟨#[48, 49, 50, 51, 52, 53, 54, 55, 56, 57, 97, 98, 99, 100, 101, 102]⟩
      generalize L[j]'(by have := hC.out.1; omega) = z at *
      have HX := hide hX2
      clear hX hX2 hC
      go_wp2_with fail
      exact ⟨⟨j + 1, _, by go_num, by omega, hC2, unhide HX⟩, by simp [RowKit.intOf]; omega⟩
    · have t1 : ¬ (j : Int) < (S.length : Int) := by omega
      have hA := pask_any ⟨old, L.take S.length, nt⟩ _ wr (hX.strs hC.out.1) (unhide HIN) (by simp only [List.length_take]; omega) (by simp only; omega)
      have y0 := hX.y.cell 0; have y1 := hX.y.cell 1; have y2 := hX.y.cell 2
      simp only [rqC, List.getElem?_toArray, List.getElem?_cons_zero, List.getElem?_cons_succ] at y0 y1 y2
      generalize askV _ = V0 at hA
      have HX := hide hX; have HA := hide hA
      clear hX hA
      go_wp2_with fail
      refine (unhide HA).mono ?_
      rintro e1 w7 ⟨rfl, hb7⟩
      have hX7 := (unhide HX).call hb7
      have HX7 := hide hX7
      clear HX HA hX7 hb7 y0 y1 y2
      go_wp2_with fail
      go_loopw [9] (fun i W => ∃ (j : Nat) (L : List ByteArray), i = .int .i64 (j : Int) ∧ j ≤ S.length ∧ Hid (CpI S L j) ∧ PkX w W old (.slice A S.length c) (.slice (some ⟨g, 0, none⟩) S.length cap) nt (.slice (some ⟨g, 0, none⟩) (S.length + 1) cap) L) (fun i _ => S.length - (RowKit.intOf i).toNat)
      case atStart => exact ⟨0, _, rfl, Nat.zero_le _, hC, unhide HX7⟩
      case round =>
        obtain ⟨q, M, rfl, hq, hC, hX⟩ := hrel
        clear HX7 t1 t0
        have t0 : (0 : Int) ≤ (q : Int) := by omega
        rcases Nat.lt_or_ge q S.length with hlt | hge
        · have t1 : (q : Int) < (S.length : Int) := by omega
          have t2 : (q : Int) < ((S.length + 1 : Nat) : Int) := by omega
          have qb : q ≤ 1048577 := by omega
          obtain ⟨a, rfl, ca⟩ := strsP_at ((unhide HS).below hX.b) q hlt
          have x1 := hX.x.cell 1
          simp only [rqC, List.getElem?_toArray, List.getElem?_cons_zero, List.getElem?_cons_succ] at x1
          obtain ⟨c0, f0⟩ := hX.o.atQ hC.out.1 q (by omega)
          have hC2 := Lib.hid (hC.out.next hlt)
          have hX2 := hX.set hC.out.1 q (by omega) S[q]
          generalize M[q]'(by have := hC.out.1; omega) = z at *
          generalize S[q] = z2 at *
          have HX := hide hX2
          clear hX hX2 hC
          go_wp2_with fail
          exact ⟨⟨q + 1, _, by go_num, by omega, hC2, unhide HX⟩, by simp [RowKit.intOf]; omega⟩
        · have t1 : ¬ (q : Int) < (S.length : Int) := by omega
          have hqe : q = S.length := by omega
          have hMS : M.take S.length = S := (show CpI S M S.length from hqe ▸ hC.out).all
          have hst := hX.strs hC.out.1
          rw [hMS] at hst
          have hmk : wr.cell? ⟨g, S.length, none⟩ = some (.string ⟨#[109, 97, 114, 107]⟩) := by
            rw [(hX.o.atQ hC.out.1 S.length (by omega)).1]
            have h := hC.out.2.2
            rw [List.getElem?_eq_getElem (by have := hC.out.1; omega)] at h
            injection h with h
            rw [h]
          have hA := pask_any ⟨old, S, nt⟩ _ wr hst (unhide HIN) (by simp only; omega) (by simp only; omega)
          have hR := fun W (hb : Below w.heap.size w W) => rpask_any ⟨old, S, nt⟩ (.slice A S.length c) W ((unhide HS).below hb) (unhide HIN) (by simp only; omega) (by simp only; omega)
          unfold askV at hA hR
          generalize (if askE ⟨old, S, nt⟩ = 0 then askB ⟨old, S, nt⟩ else ⟨#[]⟩) = T at hA hR
          generalize askE ⟨old, S, nt⟩ = eT at hA hR
          have y0 := hX.y.cell 0; have y1 := hX.y.cell 1; have y2 := hX.y.cell 2
          simp only [rqC, List.getElem?_toArray, List.getElem?_cons_zero, List.getElem?_cons_succ] at y0 y1 y2
          have hgl : g < wr.heap.size := (World.ownsRow.lt hX.o g rfl).2
          have HX := hide (And.intro hX (And.intro hst (And.intro hmk hgl))); have HA := hide hA; have HR := hide hR
          clear hX hA hst hmk hMS hC hqe hgl hR
          go_wp2_with fail
          refine (unhide HA).mono ?_
          rintro e8 w8 ⟨rfl, hb8⟩
          have hX8 := (unhide HX).1.call hb8
          have hst8 := (unhide HX).2.1.below hb8
          have hmk8 : w8.cell? ⟨g, S.length, none⟩ = some (.string ⟨#[109, 97, 114, 107]⟩) := (hb8.cell (p := ⟨g, S.length, none⟩) (unhide HX).2.2.2).trans (unhide HX).2.2.1
          have hgl8 : g < w8.heap.size := Nat.lt_of_lt_of_le (unhide HX).2.2.2 hb8.size
          have x0 := hX8.x.cell 0; have x1 := hX8.x.cell 1; have x2 := hX8.x.cell 2
          simp only [rqC, List.getElem?_toArray, List.getElem?_cons_zero, List.getElem?_cons_succ] at x0 x1 x2
          have hR8 := (unhide HR) w8 hX8.b
          have HX8 := hide (And.intro hX8 (And.intro hst8 (And.intro hmk8 hgl8))); have HR8 := hide hR8
          clear hX8 hst8 hmk8 hgl8 hR8 hb8 HX HA HR y0 y1 y2
          go_wp2_with fail
          refine (unhide HR8).mono ?_
          rintro e9 w9 ⟨rfl, hb9⟩
          have hX9 := (unhide HX8).1.call hb9
          have hst9 := (unhide HX8).2.1.below hb9
          have hmk9 : w9.cell? ⟨g, S.length, none⟩ = some (.string ⟨#[109, 97, 114, 107]⟩) := (hb9.cell (p := ⟨g, S.length, none⟩) (unhide HX8).2.2.2).trans (unhide HX8).2.2.1
          have hgl9 : g < w9.heap.size := Nat.lt_of_lt_of_le (unhide HX8).2.2.2 hb9.size
          have hQ9 := pasked_any b w9 (by omega) ((unhide HM).below hX9.b (unhide HM).lt)
          have HX9 := hide (And.intro hX9 (And.intro hst9 (And.intro hmk9 hgl9))); have HQ9 := hide hQ9
          clear hX9 hst9 hmk9 hgl9 hQ9 hb9 HX8 HR8 x0 x1 x2
          obtain ⟨⟨cB, SB, nB⟩, eB, hlB, hzB, -, huB⟩ := asked_unif b
          have HU := hide huB
          clear huB
          simp only at hlB HU
          go_wp2_with fail
          refine (unhide HQ9).mono ?_
          rintro e10 w10 ⟨hT10, hb10⟩
          obtain ⟨As, cs, rfl, hs10⟩ := (unhide HU) _ _ _ hT10
          simp only at hs10 ⊢
          have hba : Below w9.heap.size w9 (w10.alloc (.cells #[.int .i64 cB, .slice As SB.length cs, .string nB] 24)) := hb10.alloc hb10.size _
          have hX11 := (unhide HX9).1.call hba
          have hst11 := (unhide HX9).2.1.below hba
          have hmk11 : (w10.alloc (.cells #[.int .i64 cB, .slice As SB.length cs, .string nB] 24)).cell? ⟨g, S.length, none⟩ = some (.string ⟨#[109, 97, 114, 107]⟩) := (hba.cell (p := ⟨g, S.length, none⟩) (unhide HX9).2.2.2).trans (unhide HX9).2.2.1
          have hgl11 : g < (w10.alloc (.cells #[.int .i64 cB, .slice As SB.length cs, .string nB] 24)).heap.size := Nat.lt_of_lt_of_le (unhide HX9).2.2.2 hba.size
          have hs11 := ownT_strsQ (World.ownsRow.alloc hs10 (.cells #[.int .i64 cB, .slice As SB.length cs, .string nB] 24))
          have hA11 := Blk.new w10 24 #[.int .i64 cB, .slice As SB.length cs, .string nB]
          have hlt11 := hA11.lt
          have hQ11 := rpasked_any b (w10.alloc (.cells #[.int .i64 cB, .slice As SB.length cs, .string nB] 24)) (by omega)
          have HX11 := hide (And.intro hX11 (And.intro hst11 (And.intro hmk11 (And.intro hgl11 (And.intro hs11 (And.intro hA11 hlt11)))))); have HQ11 := hide hQ11
          clear hX11 hst11 hmk11 hgl11 hs11 hA11 hlt11 hQ11 hba hb10 hs10 hT10 HX9 HQ9
          go_wp2_with fail
          refine (unhide HQ11).mono ?_
          rintro e12 w12 ⟨hT12, hb12⟩
          obtain ⟨Bs, ds, rfl, hs12⟩ := (unhide HU) _ _ _ hT12
          simp only at hs12 ⊢
          have hba : Below (w10.alloc (.cells #[.int .i64 cB, .slice As SB.length cs, .string nB] 24)).heap.size (w10.alloc (.cells #[.int .i64 cB, .slice As SB.length cs, .string nB] 24)) (w12.alloc (.cells #[.int .i64 cB, .slice Bs SB.length ds, .string nB] 24)) := hb12.alloc hb12.size _
          have hX13 := (unhide HX11).1.call hba
          have hst13 := (unhide HX11).2.1.below hba
          have hmk13 : (w12.alloc (.cells #[.int .i64 cB, .slice Bs SB.length ds, .string nB] 24)).cell? ⟨g, S.length, none⟩ = some (.string ⟨#[109, 97, 114, 107]⟩) := (hba.cell (p := ⟨g, S.length, none⟩) (unhide HX11).2.2.2.1).trans (unhide HX11).2.2.1
          have hgl13 : g < (w12.alloc (.cells #[.int .i64 cB, .slice Bs SB.length ds, .string nB] 24)).heap.size := Nat.lt_of_lt_of_le (unhide HX11).2.2.2.1 hba.size
          have hs13 := (unhide HX11).2.2.2.2.1.below hba
          have hA13 := (unhide HX11).2.2.2.2.2.1.below hba (unhide HX11).2.2.2.2.2.2
          have ht13 := ownT_strsQ (World.ownsRow.alloc hs12 (.cells #[.int .i64 cB, .slice Bs SB.length ds, .string nB] 24))
          have hB13 := Blk.new w12 24 #[.int .i64 cB, .slice Bs SB.length ds, .string nB]
          have hq1 := sameRequest22_eq cB _ _ SB nB (w12.alloc (.cells #[.int .i64 cB, .slice Bs SB.length ds, .string nB] 24)) (by omega) hs13 ht13
          have a0 := hA13.cell 0; have a1 := hA13.cell 1; have a2 := hA13.cell 2
          have b0 := hB13.cell 0; have b1 := hB13.cell 1; have b2 := hB13.cell 2
          simp only [List.getElem?_toArray, List.getElem?_cons_zero, List.getElem?_cons_succ] at a0 a1 a2 b0 b1 b2
          have HX13 := hide (And.intro hX13 (And.intro hst13 (And.intro hmk13 hgl13))); have HQ1 := hide hq1
          clear hX13 hst13 hmk13 hgl13 hs13 hA13 ht13 hB13 hq1 hba hb12 hs12 hT12 HX11 HQ11
          go_wp2_with fail
          generalize (w12.alloc (.cells #[.int .i64 cB, .slice Bs SB.length ds, .string nB] 24)) = w13 at *
          refine (unhide HQ1).mono ?_
          rintro e14 w14 ⟨rfl, hb14⟩
          have hX14 := (unhide HX13).1.call hb14
          have hst14 := (unhide HX13).2.1.below hb14
          have hmk14 : w14.cell? ⟨g, S.length, none⟩ = some (.string ⟨#[109, 97, 114, 107]⟩) := (hb14.cell (p := ⟨g, S.length, none⟩) (unhide HX13).2.2.2).trans (unhide HX13).2.2.1
          have hgl14 : g < w14.heap.size := Nat.lt_of_lt_of_le (unhide HX13).2.2.2 hb14.size
          have hq2 := sameRequest22_eq old _ _ S nt w14 (by omega) hst14 ((unhide HS).below hX14.b)
          have y0 := hX14.y.cell 0; have y1 := hX14.y.cell 1; have y2 := hX14.y.cell 2
          have x0 := hX14.x.cell 0; have x1 := hX14.x.cell 1; have x2 := hX14.x.cell 2
          simp only [rqC, List.getElem?_toArray, List.getElem?_cons_zero, List.getElem?_cons_succ] at x0 x1 x2 y0 y1 y2
          have HX14 := hide (And.intro hX14 (And.intro hmk14 hgl14)); have HQ2 := hide hq2
          clear hX14 hst14 hmk14 hgl14 hq2 hb14 HX13 HQ1 a0 a1 a2 b0 b1 b2
          go_wp2_with fail
          refine (unhide HQ2).mono ?_
          rintro e15 w15 ⟨rfl, hb15⟩
          have hX15 := (unhide HX14).1.call hb15
          have hmk15 : w15.cell? ⟨g, S.length, none⟩ = some (.string ⟨#[109, 97, 114, 107]⟩) := (hb15.cell (p := ⟨g, S.length, none⟩) (unhide HX14).2.2).trans (unhide HX14).2.1
          have hgl15 : g < w15.heap.size := Nat.lt_of_lt_of_le (unhide HX14).2.2 hb15.size
          have hrd := read_any b w15 hb ((unhide HM).below hX15.b (unhide HM).lt)
          have HX15 := hide (And.intro hX15 (And.intro hmk15 hgl15)); have HRD := hide hrd
          clear hX15 hmk15 hgl15 hrd hb15 HX14 HQ2 x0 x1 x2 y0 y1 y2
          go_wp2_with fail
          refine (unhide HRD).mono ?_
          rintro e16 w16 ⟨rfl, hb16⟩
          have hX16 := (unhide HX15).1.call hb16
          have hmk16 : w16.cell? ⟨g, S.length, none⟩ = some (.string ⟨#[109, 97, 114, 107]⟩) := (hb16.cell (p := ⟨g, S.length, none⟩) (unhide HX15).2.2).trans (unhide HX15).2.1
          have HX16 := hide hX16
          have hTT : (T.toList == T.toList) = true := beq_self_eq_true _
          have hee : ((eT : Int) == (eT : Int)) = true := beq_self_eq_true _
          have hbb : (eB == eB) = true := beq_self_eq_true _
          have u1 : (0 : Int) ≤ (S.length : Int) := by omega
          have u2 : (S.length : Int) < ((S.length + 1 : Nat) : Int) := by omega
          clear hX16 hb16 HX15 HRD t0 t1
          go_wp2_with fail
          go_ret
          exact ⟨rfl, (unhide HX16).b⟩
set_option maxRecDepth 100000 in
theorem peerAsk_walk {H : Type} {enc : TypeId × Value → H} (W : World) (base : Nat) (v0 : Value) (d0 : DataW H) (p0 : List MemPlace) (v1 : Value) (d1 : DataW H) (p1 : List MemPlace) (o0 : Value.okWide Tryd.prog W .any base 24 v0) (h0 : DataW.Trod enc Tryd.prog W 0 (fun _ => true) true 24 v0 d0 p0) (l0 : ∀ x ∈ p0, x.block < W.heap.size) (o1 : Value.okWide Tryd.prog W .any base 9 v1) (h1 : DataW.Trod enc Tryd.prog W 0 (fun _ => true) true 9 v1 d1 p1) (l1 : ∀ x ∈ p1, x.block < W.heap.size) (hz : (DataW.weightsEach Tryd.prog [24, 9] ([d0, d1] : List (DataW H))).all (· ≤ reachBytes) = true) (hk : Rows.uptoBulkAll ([d0, d1] : List (DataW H)) ≤ 1048576) (hL : laidMetH Tryd.prog Rows.peerAskUptoRow.laid W) (hsh : W.ShapedOpen Tryd.prog) :
    Calls Tryd.prog 3 #[v0, v1] W fun e W' => e = .returned (.bool true) ∧ Below W.heap.size W W' := by
  obtain ⟨c, vs, S, nt, rfl, hc, hS, hb⟩ := open_request o0 h0
  obtain ⟨s, rfl, rfl, -⟩ := Go.ChangeMaps.open_string Tryd.underlying9 o1 h1
  simp only [Rows.uptoBulkAll, Rows.uptoBulk, Array.length_toList] at hk
  have hsz : s.data.size = s.size := rfl
  have hl := textsW_len S
  exact lawPeerAsk_any c S nt vs s W hS hc (by omega) (by omega) (by omega) (max_k hsh)
end Go.Proofs.YtphjpdnheaeghaaDoor

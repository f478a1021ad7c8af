/-
  CONTRACT of watch.Kept.
-/
import Derived.Test.YtmkecanibedahaaDoorRows
import Derived.Test.YtmkecanibedahaaDoorWd
import Derived.Test.YtmkecanibedahaaDoorShelf
import Derived.Test.YtmkecanibedahaaDoorStrRow
import Derived.Test.YtmkecanibedahaaDoorMth
import Derived.Lib.SlicesS
import Derived.Deep.QuietTactic
import Derived.BigQuiet
set_option linter.unusedVariables false
set_option linter.unusedSimpArgs false
namespace Go.Proofs.YtmkecanibedahaaDoor
open Go.RowKit Go.Lib
theorem toList_ne {a b : ByteArray} (h : ¬ a = b) : (a.toList == b.toList) = false := by
  rw [beq_eq_false_iff_ne, ByteArray.toList_eq, ByteArray.toList_eq]
  exact fun e => h (ByteArray.ext (Array.toList_inj.1 e))
/-- What both sides answer. -/
def keptV (z : Int) (ph : ByteArray) (due : Int) (leaf : ByteArray) (sz : Int) (rt : ByteArray) (es : List ByteArray) (t : Int) : Bool × Int :=
  if (es.length : Int) = sz ∧ rootH z es = rt then (if ph = shaB leaf then (decide (t ≤ due) || containsS es leaf, 0) else (false, 243)) else (false, 242)
theorem contains_any (g c : Nat) (es : List ByteArray) (x : ByteArray) (w : World) (hn : es.length ≤ 1099511627776) (hS : StrsAt w (.slice (some ⟨g, 0, none⟩) es.length c) es) :
    Calls Tryd.prog 9 #[.slice (some ⟨g, 0, none⟩) es.length c, .string x] w fun e w' => e = .returned (.bool (containsS es x)) ∧ w' = w := by
  have h := Tryd.slices_Contains_string g 0 es.length c es x w (Nat.le_refl _) (by omega) (fun j hj => by
    obtain ⟨A, c', hv, hcl⟩ := hS
    injection hv with e1 e2 e3
    obtain ⟨a, ha, hc⟩ := hcl j hj
    rw [← e1] at ha
    injection ha with ha
    subst ha
    rw [show es.getD j ByteArray.empty = es[j] from by simp [List.getD, hj]]
    have e : (⟨g, 0 + j, none⟩ : Addr) = (⟨g, 0, none⟩ : Addr).add j := by unfold Addr.add; simp
    rw [e]
    exact hc)
  rwa [List.take_length] at h
set_option maxRecDepth 100000 in
set_option maxHeartbeats 1000000 in
theorem kept_any (z : Int) (ph : ByteArray) (p1 due : Int) (p3 leaf o : ByteArray) (sz : Int) (rt : ByteArray) (sl : Value) (g c : Nat) (es : List ByteArray) (t : Int) (w : World)
    (hn : es.length ≤ 1099511627776) (hc : es.length ≤ c) (hx : ∀ x ∈ es, x.size ≤ 1099511627776) (hlf : leaf.size ≤ 1099511627776) (hS : StrsAt w (.slice (some ⟨g, 0, none⟩) es.length c) es) (hT : PTab w) (hsl : ∃ A n k, sl = .slice A n k) :
    Calls Tryd.prog 4 #[.int .i64 z, .agg #[.string ph, .int .i64 p1, .int .i64 due, .string p3], .string leaf, .agg #[.string o, .int .i64 sz, .string rt, sl], .slice (some ⟨g, 0, none⟩) es.length c, .int .i64 t] w fun e w' =>
      e = .returned (.tuple #[.bool (keptV z ph due leaf sz rt es t).1, .int .i64 (keptV z ph due leaf sz rt es t).2]) ∧ Below w.heap.size w w' := by
  obtain ⟨A0, n0, k0, rfl⟩ := hsl
  have hb0 : Below w.heap.size w ((w.alloc (.cells #[.string ph, .int .i64 p1, .int .i64 due, .string p3] 23)).alloc (.cells #[.string o, .int .i64 sz, .string rt, .slice A0 n0 k0] 26)) := ((Below.refl _ _).alloc (Nat.le_refl _) _).alloc (by simp) _
  by_cases hA : (es.length : Int) = sz
  · have hP0 : PTab _ := hT.next hb0
    have hS0 := hS.below hb0
    have hroot := fun (W : World) (h : StrsAt W (.slice (some ⟨g, 0, none⟩) es.length c) es) (hT : PTab W) => root_any z es.length es (some ⟨g, 0, none⟩) c W (Nat.le_refl _) hn hc hx h hT
    have hsum := fun (W : World) (hT : PTab W) => sum_any leaf W (by omega) hT.1 hT.2
    have hcon := fun (W : World) (h : StrsAt W (.slice (some ⟨g, 0, none⟩) es.length c) es) => contains_any g c es leaf W hn h
    have hBp : Blk ((w.alloc (.cells #[.string ph, .int .i64 p1, .int .i64 due, .string p3] 23)).alloc (.cells #[.string o, .int .i64 sz, .string rt, .slice A0 n0 k0] 26)) w.heap.size 23 #[.string ph, .int .i64 p1, .int .i64 due, .string p3] := (Blk.new w _ _).alloc _
    have hBc : Blk ((w.alloc (.cells #[.string ph, .int .i64 p1, .int .i64 due, .string p3] 23)).alloc (.cells #[.string o, .int .i64 sz, .string rt, .slice A0 n0 k0] 26)) (w.alloc (.cells #[.string ph, .int .i64 p1, .int .i64 due, .string p3] 23)).heap.size 26 #[.string o, .int .i64 sz, .string rt, .slice A0 n0 k0] := Blk.new _ _ _
    rw [show (w.alloc (.cells #[.string ph, .int .i64 p1, .int .i64 due, .string p3] 23)).heap.size = w.heap.size + 1 from by simp] at hBc
    have hA' : ((es.length : Int) == sz) = true := by rw [beq_iff_eq]; exact hA
    have HH := hide (And.intro hroot (And.intro hsum hcon)); clear hroot hsum hcon hx hT hS
    generalize hw0 : ((w.alloc (.cells #[.string ph, .int .i64 p1, .int .i64 due, .string p3] 23)).alloc (.cells #[.string o, .int .i64 sz, .string rt, .slice A0 n0 k0] 26)) = w0 at *
    have HW0 := Lib.hid hw0; clear hw0
    have c1 := hBc.cell 1; have c2 := hBc.cell 2
    simp only [List.getElem?_toArray, List.getElem?_cons_zero, List.getElem?_cons_succ] at c1 c2
    have H0 := hide (And.intro hP0 (And.intro hS0 (And.intro hBp (And.intro hBc hb0)))); clear hP0 hS0 hBp hBc hb0
    generalize hR : rootH z es = R at *
    have HR := Lib.hid hR; clear hR
    go_enter Tryd.func4, Tryd.ntmps4
    go_wp2_with fail
    rw [HW0.out]
    go_region_held3 (fun W => W.cell? ⟨w.heap.size + 1, 1, none⟩ = some (.int .i64 sz) ∧ W.cell? ⟨w.heap.size + 1, 2, none⟩ = some (.string rt)) (first | (refine ⟨?_, ?_⟩ <;> assumption) | go_keep) (first | (go_at_call 7; refine ((unhide HH).1 _ (unhide H0).2.1.drew (unhide H0).1.drew).mono ?_; rintro e w1 ⟨rfl, hb1⟩; have c1' := ((unhide H0).2.2.2.1.drew.below hb1 (unhide H0).2.2.2.1.lt).cell 1; have c2' := ((unhide H0).2.2.2.1.drew.below hb1 (unhide H0).2.2.2.1.lt).cell 2; simp only [List.getElem?_toArray, List.getElem?_cons_zero, List.getElem?_cons_succ] at c1' c2'))
    have hb1' : Below w.heap.size w w1 := (unhide H0).2.2.2.2.drew.trans (hb1.mono (unhide H0).2.2.2.2.size)
    have hP1 := (unhide H0).1.drew.next hb1
    have hS1 := (unhide H0).2.1.drew.below hb1
    have hBp1 := (unhide H0).2.2.1.drew.below hb1 (unhide H0).2.2.1.lt
    have H1 := hide (And.intro hP1 (And.intro hS1 (And.intro hBp1 hb1'))); clear hP1 hS1 hBp1 hb1' hb1 c1 c2 c1' c2' H0 HW0
    by_cases hR : R = rt
    · subst hR
      have hRR : (!R.toList == R.toList) = false := by rw [beq_self_eq_true]; rfl
      have c0 := (unhide H1).2.2.1.cell 0; have d2 := (unhide H1).2.2.1.cell 2
      simp only [List.getElem?_toArray, List.getElem?_cons_zero, List.getElem?_cons_succ] at c0 d2
      rw [hRR]
      go_wp2_with fail
      generalize hD : shaB leaf = D at *
      have HD := Lib.hid hD; clear hD
      go_region_held3 (fun W => W.cell? ⟨w.heap.size, 0, none⟩ = some (.string ph)) (first | assumption | go_keep) (first | (go_at_call 8; refine ((unhide HH).2.1 _ (unhide H1).1.drew).mono ?_; rintro e w2 ⟨rfl, hb2⟩; have c0' := ((unhide H1).2.2.1.drew.below hb2 (unhide H1).2.2.1.lt).cell 0; simp only [List.getElem?_toArray, List.getElem?_cons_zero, List.getElem?_cons_succ] at c0'))
      have hb2' : Below w.heap.size w w2 := (unhide H1).2.2.2.drew.trans (hb2.mono (unhide H1).2.2.2.size)
      have hP2 := (unhide H1).1.drew.next hb2
      have hS2 := (unhide H1).2.1.drew.below hb2
      have hBp2 := (unhide H1).2.2.1.drew.below hb2 (unhide H1).2.2.1.lt
      have H2 := hide (And.intro hP2 (And.intro hS2 (And.intro hBp2 hb2'))); clear hP2 hS2 hBp2 hb2' hb2 c0 d2 c0' H1
      by_cases hD : ph = D
      · subst hD
        have hDD : (!ph.toList == ph.toList) = false := by rw [beq_self_eq_true]; rfl
        have d2 := (unhide H2).2.2.1.cell 2
        simp only [List.getElem?_toArray, List.getElem?_cons_zero, List.getElem?_cons_succ] at d2
        have hv : keptV z ph due leaf sz R es t = (decide (t ≤ due) || containsS es leaf, 0) := by unfold keptV; rw [if_pos ⟨hA, HR.out⟩, if_pos HD.out.symm]
        have HV := Lib.hid hv; clear hv
        have hcn := (unhide HH).2.2 _ (unhide H2).2.1
        by_cases ht : t ≤ due
        · have ht' : decide (t ≤ due) = true := by simpa using ht
          clear hcn
          rw [hDD]
          go_wp2_with fail
          go_ret2
          exact ⟨by rw [HV.out, ht']; rfl, (unhide H2).2.2.2⟩
        · have ht' : decide (t ≤ due) = false := by simpa using ht
          have HC := hide hcn; clear hcn
          rw [hDD]
          go_wp2_with fail
          refine (unhide HC).mono ?_
          rintro e w3 ⟨rfl, rfl⟩
          go_wp2_with fail
          go_ret2
          exact ⟨by rw [HV.out, ht']; rfl, (unhide H2).2.2.2⟩
      · have hv : keptV z ph due leaf sz R es t = (false, 243) := by unfold keptV; rw [if_pos ⟨hA, HR.out⟩, if_neg (fun h => hD (h.trans HD.out))]
        have hD' : (!ph.toList == D.toList) = true := by rw [toList_ne hD]; rfl
        have HV := Lib.hid hv; clear hv
        rw [hD']
        go_wp2_with fail
        go_ret2
        exact ⟨by rw [HV.out]; rfl, (unhide H2).2.2.2⟩
    · have hv : keptV z ph due leaf sz rt es t = (false, 242) := by unfold keptV; rw [if_neg (fun h => hR (HR.out ▸ h.2))]
      have hR' : (!R.toList == rt.toList) = true := by rw [toList_ne hR]; rfl
      have HV := Lib.hid hv; clear hv
      rw [hR']
      go_wp2_with fail
      go_ret2
      exact ⟨by rw [HV.out]; rfl, (unhide H1).2.2.2⟩
  · have hv : keptV z ph due leaf sz rt es t = (false, 242) := by unfold keptV; rw [if_neg (fun h => hA h.1)]
    rw [hv]
    have hA' : ((es.length : Int) == sz) = false := by rw [beq_eq_false_iff_ne]; exact hA
    have HB := hide hb0; clear hb0 hv hS hT hx
    go_enter Tryd.func4, Tryd.ntmps4
    go_wp2_with fail
    go_quiet (fail)
    go_wp2_with fail
    go_ret2
    exact ⟨rfl, below_drewN (unhide HB) nq⟩
end Go.Proofs.YtmkecanibedahaaDoor

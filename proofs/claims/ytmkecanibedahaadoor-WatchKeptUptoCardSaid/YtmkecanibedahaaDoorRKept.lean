/-
  CONTRACT of the document's answer for Kept; sameTexts of the law.
-/
import Derived.Test.YtmkecanibedahaaDoorRows
import Derived.Test.YtmkecanibedahaaDoorWd
import Derived.Test.YtmkecanibedahaaDoorStrRow
import Derived.Test.YtmkecanibedahaaDoorRMth
import Derived.Test.YtmkecanibedahaaDoorKept
import Derived.Lib.SlicesS
import Derived.Deep.QuietTactic
import Derived.BigQuiet
set_option linter.unusedVariables false
set_option linter.unusedSimpArgs false
namespace Go.Proofs.YtmkecanibedahaaDoor
open Go.RowKit Go.Lib
theorem contains_at {es : List ByteArray} {k : Nat} {x : ByteArray} (hk : k < es.length) (h : es[k] = x) : containsS es x = true := (containsS_iff es x).2 (by rw [← h]; exact List.getElem_mem hk)
theorem contains_no {es : List ByteArray} {x : ByteArray} (h : ∀ j (hj : j < es.length), es[j] ≠ x) : containsS es x = false := by
  cases hc : containsS es x with
  | false => rfl
  | true =>
    obtain ⟨i, hi, e⟩ := List.getElem_of_mem ((containsS_iff es x).1 hc)
    exact absurd e (h i hi)
set_option maxRecDepth 100000 in
set_option maxHeartbeats 1000000 in
theorem rkept_any (z : Int) (ph : ByteArray) (p1 due : Int) (p3 leaf o : ByteArray) (sz : Int) (rt : ByteArray) (sl : Value) (A : Option Addr) (c : Nat) (es : List ByteArray) (t : Int) (w : World)
    (hn : es.length ≤ 1099511627776) (hc : es.length ≤ c) (hx : ∀ x ∈ es, x.size ≤ 1099511627776) (hlf : leaf.size ≤ 1099511627776) (hS : StrsAt w (.slice A es.length c) es) (hT : RTab w) (hsl : ∃ A n k, sl = .slice A n k) :
    Calls Tryd.prog 5 #[.int .i64 z, .agg #[.string ph, .int .i64 p1, .int .i64 due, .string p3], .string leaf, .agg #[.string o, .int .i64 sz, .string rt, sl], .slice A es.length c, .int .i64 t] w fun e w' =>
      e = .returned (.tuple #[.bool (keptV z ph due leaf sz rt es t).1, .int .i64 (keptV z ph due leaf sz rt es t).2]) ∧ Below w.heap.size w w' := by
  obtain ⟨A0, n0, k0, rfl⟩ := hsl
  have hb0 : Below w.heap.size w ((w.alloc (.cells #[.string ph, .int .i64 p1, .int .i64 due, .string p3] 23)).alloc (.cells #[.string o, .int .i64 sz, .string rt, .slice A0 n0 k0] 26)) := ((Below.refl _ _).alloc (Nat.le_refl _) _).alloc (by simp) _
  have hP0 : RTab _ := hT.next hb0
  have hS0 := hS.below hb0
  have hroot := fun (W : World) (h : StrsAt W (.slice A es.length c) es) (hT : RTab W) => rroot_any z es.length es A c W (Nat.le_refl _) hn hc hx h hT
  have hsum := fun (W : World) (hT : RTab W) => rsum_any leaf W (by omega) hT.1 hT.2
  have hBp : Blk ((w.alloc (.cells #[.string ph, .int .i64 p1, .int .i64 due, .string p3] 23)).alloc (.cells #[.string o, .int .i64 sz, .string rt, .slice A0 n0 k0] 26)) w.heap.size 23 #[.string ph, .int .i64 p1, .int .i64 due, .string p3] := (Blk.new w _ _).alloc _
  have hBc : Blk ((w.alloc (.cells #[.string ph, .int .i64 p1, .int .i64 due, .string p3] 23)).alloc (.cells #[.string o, .int .i64 sz, .string rt, .slice A0 n0 k0] 26)) (w.alloc (.cells #[.string ph, .int .i64 p1, .int .i64 due, .string p3] 23)).heap.size 26 #[.string o, .int .i64 sz, .string rt, .slice A0 n0 k0] := Blk.new _ _ _
  rw [show (w.alloc (.cells #[.string ph, .int .i64 p1, .int .i64 due, .string p3] 23)).heap.size = w.heap.size + 1 from by simp] at hBc
  have HH := hide (And.intro hroot hsum); clear hroot hsum hx hT hS
  generalize hw0 : ((w.alloc (.cells #[.string ph, .int .i64 p1, .int .i64 due, .string p3] 23)).alloc (.cells #[.string o, .int .i64 sz, .string rt, .slice A0 n0 k0] 26)) = w0 at *
  have HW0 := Lib.hid hw0; clear hw0
  have H0 := hide (And.intro hP0 (And.intro hS0 (And.intro hBp (And.intro hBc hb0)))); clear hP0 hS0 hBp hBc hb0
  generalize hR : rootH z es = R at *
  have HR := Lib.hid hR; clear hR
  generalize hD : shaB leaf = D at *
  have HD := Lib.hid hD; clear hD
  have HV : Hid (keptV z ph due leaf sz rt es t = if (es.length : Int) = sz ∧ R = rt then (if ph = D then (decide (t ≤ due) || containsS es leaf, 0) else (false, 243)) else (false, 242)) := by rw [Hid, keptV, HR.out, HD.out]
  generalize keptV z ph due leaf sz rt es t = V at *
  go_enter Tryd.func5, Tryd.ntmps5
  go_wp2_with fail
  rw [HW0.out]
  refine ((unhide HH).1 _ (unhide H0).2.1 (unhide H0).1).mono ?_
  rintro e w1 ⟨rfl, hb1⟩
  have hb1' : Below w.heap.size w w1 := (unhide H0).2.2.2.2.trans (hb1.mono (unhide H0).2.2.2.2.size)
  have hP1 := (unhide H0).1.next hb1
  have hS1 := (unhide H0).2.1.below hb1
  have hBp1 := (unhide H0).2.2.1.below hb1 (unhide H0).2.2.1.lt
  have hBc1 := (unhide H0).2.2.2.1.below hb1 (unhide H0).2.2.2.1.lt
  have d1 := hBc1.cell 1; have d2 := hBc1.cell 2
  simp only [List.getElem?_toArray, List.getElem?_cons_zero, List.getElem?_cons_succ] at d1 d2
  have H1 := hide (And.intro hP1 (And.intro hS1 (And.intro hBp1 hb1'))); clear hP1 hS1 hBp1 hBc1 hb1' hb1 H0 HW0
  by_cases hA : (es.length : Int) = sz
  · have hA' : ((es.length : Int) == sz) = true := by rw [beq_iff_eq]; exact hA
    by_cases hR : R = rt
    · subst hR
      have hRR : (!R.toList == R.toList) = false := by rw [beq_self_eq_true]; rfl
      rw [if_pos ⟨hA, rfl⟩] at HV
      go_wp2_with fail
      refine ((unhide HH).2 _ (unhide H1).1).mono ?_
      rintro e w2 ⟨rfl, hb2⟩
      have hb2' : Below w.heap.size w w2 := (unhide H1).2.2.2.trans (hb2.mono (unhide H1).2.2.2.size)
      have hS2 := (unhide H1).2.1.below hb2
      have hBp2 := (unhide H1).2.2.1.below hb2 (unhide H1).2.2.1.lt
      have c0 := hBp2.cell 0; have c2 := hBp2.cell 2
      simp only [List.getElem?_toArray, List.getElem?_cons_zero, List.getElem?_cons_succ] at c0 c2
      obtain ⟨A', c', hsv, hcl⟩ := hS2
      injection hsv with e1 e2 e3
      subst e1 e3
      have H2 := hide (And.intro hcl (And.intro hBp2 hb2')); clear hcl hBp2 hb2' hb2 H1 d1 d2 hA' hRR
      by_cases hD : ph = D
      · subst hD
        have hDD : (!ph.toList == ph.toList) = false := by rw [beq_self_eq_true]; rfl
        rw [if_pos rfl] at HV
        go_wp2_with fail
        go_loopw [16] (fun i wr => ∃ k : Nat, i = .int .i64 k ∧ k ≤ es.length ∧ Hid (wr = w2) ∧ Hid (∀ j (hj : j < es.length), j < k → es[j] ≠ leaf)) (fun i _ => es.length - (RowKit.intOf i).toNat)
        case atStart => exact ⟨0, rfl, by omega, Lib.hid rfl, Lib.hid (fun j _ h => by omega)⟩
        case round =>
          obtain ⟨k, rfl, hk, hw, hne⟩ := hrel
          have hw' := hw.out
          subst hw'
          rcases Nat.lt_or_ge k es.length with hlt | hge
          · obtain ⟨p, rfl, hp⟩ := (unhide H2).1 k hlt
            by_cases hx : es[k] = leaf
            · have hcn := contains_at hlt hx
              rw [hcn, Bool.or_true] at HV
              rw [hx] at hp
              have hll : (leaf.toList == leaf.toList) = true := beq_self_eq_true _
              clear hne hx hcn
              go_wp2_with fail
              go_ret2
              exact ⟨by rw [HV.out]; rfl, (unhide H2).2.2⟩
            · have hne' : Hid (∀ j (hj : j < es.length), j < k + 1 → es[j] ≠ leaf) := fun j hj h => by
                rcases Nat.lt_or_ge j k with h' | h'
                · exact hne.out j hj h'
                · obtain rfl : j = k := by omega
                  exact hx
              clear hne
              generalize es[k] = x at hp hx
              have hx' := toList_ne hx
              clear hx
              go_wp2_with fail
              refine ⟨⟨k + 1, by go_num, by omega, Lib.hid trivial, hne'⟩, by simp [RowKit.intOf]; omega⟩
          · have hcn : containsS es leaf = false := contains_no (fun j hj => hne.out j hj (by omega))
            rw [hcn, Bool.or_false] at HV
            clear hcn hne
            go_wp2_with fail
            go_ret2
            exact ⟨by rw [HV.out]; rfl, (unhide H2).2.2⟩
      · rw [if_neg hD] at HV
        have hD' : (!ph.toList == D.toList) = true := by rw [toList_ne hD]; rfl
        go_wp2_with fail
        go_ret2
        exact ⟨by rw [HV.out]; rfl, (unhide H2).2.2⟩
    · have hR' : (!R.toList == rt.toList) = true := by rw [toList_ne hR]; rfl
      rw [if_neg (fun h => hR h.2)] at HV
      go_wp2_with fail
      go_ret2
      exact ⟨by rw [HV.out]; rfl, (unhide H1).2.2.2⟩
  · rw [if_neg (fun h => hA h.1)] at HV
    have hA' : ((es.length : Int) == sz) = false := by rw [beq_eq_false_iff_ne]; exact hA
    go_wp2_with fail
    go_ret2
    exact ⟨by rw [HV.out]; rfl, (unhide H1).2.2.2⟩
set_option maxRecDepth 100000 in
set_option maxHeartbeats 1000000 in
/-- Two lists that read alike are alike. -/
theorem sameTexts_any (a b : Value) (es : List ByteArray) (w : World) (hn : es.length ≤ 1099511627776) (ha : StrsAt w a es) (hb : StrsAt w b es) :
    Calls Tryd.prog 6 #[a, b] w fun e w' => e = .returned (.bool true) ∧ ∃ nd, w' = w.drewN nd := by
  obtain ⟨A, c, rfl, ha⟩ := ha
  obtain ⟨B, d, rfl, hb⟩ := hb
  have HA := hide ha; have HB := hide hb; clear ha hb
  go_enter Tryd.func6, Tryd.ntmps6
  go_wp2_with fail
  go_loopw [5] (fun i wr => ∃ k : Nat, i = .int .i64 k ∧ k ≤ es.length ∧ ∃ nd, Hid (wr = w.drewN nd)) (fun i _ => es.length - (RowKit.intOf i).toNat)
  case atStart => exact ⟨0, rfl, by omega, 0, Lib.hid rfl⟩
  case round =>
    obtain ⟨k, rfl, hk, nd, hw⟩ := hrel
    have hw' := hw.out
    subst hw'
    rcases Nat.lt_or_ge k es.length with hlt | hge
    · obtain ⟨p, rfl, hp⟩ := unhide HA k hlt
      obtain ⟨q, rfl, hq⟩ := unhide HB k hlt
      generalize es[k] = x at hp hq
      have hp' : (w.drewN nd).cell? (p.add k) = some (.string x) := hp
      have hq' : (w.drewN nd).cell? (q.add k) = some (.string x) := hq
      go_wp2_with fail
      go_quiet (fail)
      go_wp2_with fail
      refine ⟨⟨k + 1, by go_num, by omega, nd + nq, Lib.hid rfl⟩, by simp [RowKit.intOf]; omega⟩
    · go_wp2_with fail
      go_ret
      exact ⟨rfl, nd, rfl⟩
end Go.Proofs.YtmkecanibedahaaDoor

/-
  CONTRACTS of package mth: split, halves, Root.
-/
import Derived.Test.YtmkecanibedahaaDoorRows
import Derived.Test.YtmkecanibedahaaDoorWd
import Derived.Test.YtmkecanibedahaaDoorStrRow
import Derived.Test.YtmkecanibedahaaDoorMthP
import Derived.Test.YtmkecanibedahaaDoorTree
import Derived.Deep.QuietTactic
import Derived.BigQuiet
set_option linter.unusedVariables false
set_option linter.unusedSimpArgs false
namespace Go.Proofs.YtmkecanibedahaaDoor
open Go.RowKit Go.Lib
theorem split_any (n : Nat) (w : World) (h2 : 2 ≤ n) (hn : n ≤ 1099511627776) :
    Calls Tryd.prog 27 #[.int .i64 (n : Int)] w fun e w' => e = .returned (.int .i64 (splitN n : Int)) ∧ w = w' := by
  go_enter Tryd.func27, Tryd.ntmps27
  go_wp2_with fail
  go_loopw [3] (fun i wr => ∃ k f : Nat, i = .int .i64 k ∧ 1 ≤ k ∧ k < n ∧ n ≤ k + f ∧ Hid (splitF f k n = splitN n) ∧ Hid (w = wr)) (fun i _ => n - (RowKit.intOf i).toNat)
  case atStart => exact ⟨1, n, rfl, Nat.le_refl _, by omega, by omega, Lib.hid rfl, Lib.hid rfl⟩
  case round =>
    obtain ⟨k, f, rfl, h1, hk, hf, hs, hw⟩ := hrel
    obtain rfl := hw.out
    rcases Nat.lt_or_ge (2 * k) n with hlt | hge
    · have hlt' : (k : Int) < (n : Int) - (k : Int) := by omega
      obtain ⟨f', rfl⟩ : ∃ f', f = f' + 1 := ⟨f - 1, by omega⟩
      have hst : Hid (splitF f' (2 * k) n = splitN n) := by rw [Hid, ← splitF_go hlt]; exact hs.out
      go_wp2_with fail
      refine ⟨⟨2 * k, f', by go_num, by omega, by omega, by omega, hst, Lib.hid trivial⟩, by simp [RowKit.intOf]; omega⟩
    · have hlt' : ¬ (k : Int) < (n : Int) - (k : Int) := by omega
      have hst : Hid (k = splitN n) := by rw [Hid, ← hs.out, splitF_end (by omega)]
      go_wp2_with fail
      go_ret
      exact ⟨by rw [← hst.out]; rfl, rfl⟩
theorem rsplit_any (n : Nat) (w : World) (h2 : 2 ≤ n) (hn : n ≤ 1099511627776) :
    Calls Tryd.prog 22 #[.int .i64 (n : Int)] w fun e w' => e = .returned (.int .i64 (splitN n : Int)) ∧ w = w' := by
  go_enter Tryd.func22, Tryd.ntmps22
  go_wp2_with fail
  go_loopw [3] (fun i wr => ∃ k f : Nat, i = .int .i64 k ∧ 1 ≤ k ∧ k < n ∧ n ≤ k + f ∧ Hid (splitF f k n = splitN n) ∧ Hid (w = wr)) (fun i _ => n - (RowKit.intOf i).toNat)
  case atStart => exact ⟨1, n, rfl, Nat.le_refl _, by omega, by omega, Lib.hid rfl, Lib.hid rfl⟩
  case round =>
    obtain ⟨k, f, rfl, h1, hk, hf, hs, hw⟩ := hrel
    obtain rfl := hw.out
    rcases Nat.lt_or_ge (2 * k) n with hlt | hge
    · have hlt' : (k : Int) ≤ ((n : Int) - 1) / 2 := by omega
      obtain ⟨f', rfl⟩ : ∃ f', f = f' + 1 := ⟨f - 1, by omega⟩
      have hst : Hid (splitF f' (2 * k) n = splitN n) := by rw [Hid, ← splitF_go hlt]; exact hs.out
      go_wp2_with fail
      refine ⟨⟨2 * k, f', by go_num, by omega, by omega, by omega, hst, Lib.hid trivial⟩, by simp [RowKit.intOf]; omega⟩
    · have hlt' : ¬ (k : Int) ≤ ((n : Int) - 1) / 2 := by omega
      have hst : Hid (k = splitN n) := by rw [Hid, ← hs.out, splitF_end (by omega)]
      go_wp2_with fail
      go_ret
      exact ⟨by rw [← hst.out]; rfl, rfl⟩
set_option maxRecDepth 100000 in
theorem halves_any (a : Addr) (n c : Nat) (w : World) (h2 : 2 ≤ n) (hn : n ≤ 1099511627776) (hc : n ≤ c) :
    Calls Tryd.prog 14 #[.slice (some a) n c] w fun e w' => e = .returned (.tuple #[.slice (some a) (splitN n) (splitN n), .slice (some (a.add (splitN n))) (n - splitN n) (n - splitN n)]) ∧ ∃ nd, w' = w.drewN nd := by
  obtain ⟨hk1, hk2⟩ := splitN_lt h2
  have hsp := split_any n w h2 hn
  generalize splitN n = k at *
  have HSP := hide hsp; clear hsp
  have i0 : (0 : Int) ≤ (k : Int) := by omega
  have i1 : (k : Int) ≤ (n : Int) := by omega
  have i2 : (k : Int) ≤ (c : Int) := by omega
  have i3 : (n : Int) ≤ (c : Int) := by omega
  have i4 : ¬ k = 0 := by omega
  have i5 : ¬ n - k = 0 := by omega
  go_enter Tryd.func14, Tryd.ntmps14
  go_wp2_with fail
  refine (unhide HSP).mono ?_
  rintro e w1 ⟨rfl, rfl⟩
  go_wp2_with fail
  go_quiet (fail)
  go_wp2_with fail
  go_ret2
  exact ⟨rfl, nq, rfl⟩
set_option maxRecDepth 100000 in
set_option maxHeartbeats 1000000 in
theorem root_any (z : Int) : ∀ (m : Nat) (es : List ByteArray) (A : Option Addr) (c : Nat) (w : World), es.length ≤ m → es.length ≤ 1099511627776 → es.length ≤ c → (∀ x ∈ es, x.size ≤ 1099511627776) → StrsAt w (.slice A es.length c) es → PTab w →
    Calls Tryd.prog 7 #[.int .i64 z, .slice A es.length c] w fun e w' => e = .returned (.string (rootH z es)) ∧ Below w.heap.size w w'
  | m, es, A, c, w, hm, hn, hc, hx, hS, hT => by
    rcases Nat.lt_or_ge es.length 2 with h2 | h2
    · rcases Nat.eq_zero_or_pos es.length with h0 | h0
      · obtain rfl : es = [] := List.eq_nil_of_length_eq_zero h0
        have he := empty_any z w hT
        rw [← rootH_nil] at he
        have HE := hide he; clear he hS hT hx
        show Calls Tryd.prog 7 #[.int .i64 z, .slice A 0 c] w _
        go_enter Tryd.func7, Tryd.ntmps7
        go_wp2_with fail
        refine (unhide HE).mono ?_
        rintro e w1 ⟨rfl, hb⟩
        go_wp2_with fail
        go_ret
        exact ⟨rfl, hb⟩
      · obtain ⟨x, rfl⟩ : ∃ x, es = [x] := by
          match es, h0, h2 with
          | [x], _, _ => exact ⟨x, rfl⟩
        obtain ⟨A', c', hv, hcl⟩ := hS
        injection hv with e1 e2 e3
        subst e1 e3
        obtain ⟨a, rfl, c0⟩ := hcl 0 (by simp)
        have c0' : w.cell? a = some (.string x) := by
          have e : a.add 0 = a := by unfold Addr.add; simp
          rw [e] at c0
          exact c0
        have hl := leaf_any z x w (hx x (by simp)) hT
        rw [← rootH_one] at hl
        have HL := hide hl; clear hl hT hx hcl c0
        show Calls Tryd.prog 7 #[.int .i64 z, .slice (some a) 1 c] w _
        go_enter Tryd.func7, Tryd.ntmps7
        go_wp2_with fail
        refine (unhide HL).mono ?_
        rintro e w1 ⟨rfl, hb⟩
        go_wp2_with fail
        go_ret
        exact ⟨rfl, hb⟩
    · obtain ⟨m', rfl⟩ : ∃ m', m = m' + 1 := ⟨m - 1, by omega⟩
      obtain ⟨hk1, hk2⟩ := splitN_lt h2
      obtain ⟨a, rfl⟩ : ∃ a, A = some a := by
        obtain ⟨A', c', hv, hcl⟩ := hS
        injection hv with e1 e2 e3
        subst e1
        obtain ⟨a, ha, -⟩ := hcl 0 (by omega)
        exact ⟨a, ha⟩
      have hha := halves_any a es.length c w h2 hn hc
      have hF := hS.front (splitN es.length) (splitN es.length) (by omega)
      have hB := hS.back (splitN es.length) (es.length - splitN es.length) (by omega)
      have hrt := rootH_more (z := z) h2
      have hlt : (es.take (splitN es.length)).length = splitN es.length := by rw [List.length_take]; omega
      have hld : (es.drop (splitN es.length)).length = es.length - splitN es.length := by rw [List.length_drop]
      have ih1 := fun W (h : StrsAt W (.slice (some a) (splitN es.length) (splitN es.length)) (es.take (splitN es.length))) (hT : PTab W) => root_any z m' (es.take (splitN es.length)) (some a) (splitN es.length) W (by omega) (by omega) (by omega) (fun x h => hx x (List.mem_of_mem_take h)) (by rw [hlt]; exact h) hT
      have ih2 := fun W (h : StrsAt W (.slice (some (a.add (splitN es.length))) (es.length - splitN es.length) (es.length - splitN es.length)) (es.drop (splitN es.length))) (hT : PTab W) => root_any z m' (es.drop (splitN es.length)) (some (a.add (splitN es.length))) (es.length - splitN es.length) W (by omega) (by omega) (by omega) (fun x h => hx x (List.mem_of_mem_drop h)) (by rw [hld]; exact h) hT
      rw [hlt] at ih1
      rw [hld] at ih2
      have hr1 := rootH_size z (es.take (splitN es.length))
      have hr2 := rootH_size z (es.drop (splitN es.length))
      generalize rootH z (es.take (splitN es.length)) = R1 at *
      generalize rootH z (es.drop (splitN es.length)) = R2 at *
      generalize splitN es.length = k at *
      generalize es.take k = e1 at *
      generalize es.drop k = e2 at *
      have HRT := Lib.hid hrt; have HH := hide hha; have H1 := hide ih1; have H2 := hide ih2; have HS := hide (And.intro hF (And.intro hB hT))
      clear hrt hha ih1 ih2 hF hB hT hS hx hlt hld
      have h20 : ((es.length : Int) == 0) = false := by rw [beq_eq_false_iff_ne]; omega
      have h21 : ((es.length : Int) == 1) = false := by rw [beq_eq_false_iff_ne]; omega
      go_enter Tryd.func7, Tryd.ntmps7
      go_wp2_with fail
      refine (unhide HH).mono ?_
      rintro e w1 ⟨rfl, nd, rfl⟩
      go_wp2_with fail
      refine (unhide H1 (w.drewN nd) (unhide HS).1 (unhide HS).2.2).mono ?_
      rintro e w2 ⟨rfl, hb2⟩
      have hb2' : Below w.heap.size w w2 := (below_drewN (Below.refl _ _) nd).trans hb2
      have HB2 := hide hb2'; clear hb2 hb2'
      go_wp2_with fail
      refine (unhide H2 w2 ((unhide HS).2.1.below (unhide HB2)) ((unhide HS).2.2.next (unhide HB2))).mono ?_
      rintro e w3 ⟨rfl, hb3⟩
      have hb3' := (unhide HB2).trans (hb3.mono (unhide HB2).size)
      have HB3 := hide hb3'; clear hb3 hb3'
      go_wp2_with fail
      refine (node_any z R1 R2 w3 (by omega) (by omega) ((unhide HS).2.2.next (unhide HB3))).mono ?_
      rintro e w4 ⟨rfl, hb4⟩
      have hb4' := (unhide HB3).trans (hb4.mono (unhide HB3).size)
      have HB4 := hide hb4'; clear hb4 hb4'
      go_wp2_with fail
      go_ret
      exact ⟨ret_str (by rw [HRT.out]), unhide HB4⟩
end Go.Proofs.YtmkecanibedahaaDoor

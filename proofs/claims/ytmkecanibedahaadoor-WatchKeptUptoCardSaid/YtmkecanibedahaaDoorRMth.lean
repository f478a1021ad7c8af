/-
  CONTRACT of the document's answer for mth: Root.
-/
import Derived.Test.YtmkecanibedahaaDoorRows
import Derived.Test.YtmkecanibedahaaDoorWd
import Derived.Test.YtmkecanibedahaaDoorStrRow
import Derived.Test.YtmkecanibedahaaDoorMthP
import Derived.Test.YtmkecanibedahaaDoorTree
import Derived.Test.YtmkecanibedahaaDoorMth
set_option linter.unusedVariables false
set_option linter.unusedSimpArgs false
namespace Go.Proofs.YtmkecanibedahaaDoor
open Go.RowKit Go.Lib
set_option maxRecDepth 100000 in
set_option maxHeartbeats 1000000 in
theorem rroot_any (z : Int) : ∀ (m : Nat) (es : List ByteArray) (A : Option Addr) (c : Nat) (w : World), es.length ≤ m → es.length ≤ 1099511627776 → es.length ≤ c → (∀ x ∈ es, x.size ≤ 1099511627776) → StrsAt w (.slice A es.length c) es → RTab w →
    Calls Tryd.prog 10 #[.int .i64 z, .slice A es.length c] w fun e w' => e = .returned (.string (rootH z es)) ∧ Below w.heap.size w w'
  | m, es, A, c, w, hm, hn, hc, hx, hS, hT => by
    rcases Nat.lt_or_ge es.length 2 with h2 | h2
    · rcases Nat.eq_zero_or_pos es.length with h0 | h0
      · obtain rfl : es = [] := List.eq_nil_of_length_eq_zero h0
        have he := rempty_any z w hT
        rw [← rootH_nil] at he
        have HE := hide he; clear he hS hT hx
        show Calls Tryd.prog 10 #[.int .i64 z, .slice A 0 c] w _
        go_enter Tryd.func10, Tryd.ntmps10
        go_wp2_with fail
        refine (unhide HE).mono ?_
        rintro e w1 ⟨rfl, hb⟩
        go_wp2_with fail
        go_ret
        exact ⟨rfl, hb⟩
      · obtain ⟨x, rfl⟩ : ∃ x, es = [x] := by
          match es, h0, h2 with
          | [x], _, _ => exact ⟨x, rfl⟩
        obtain ⟨A', c', hv, hcl⟩ := hS
        injection hv with e1 e2 e3
        subst e1 e3
        obtain ⟨a, rfl, c0⟩ := hcl 0 (by simp)
        have c0' : w.cell? a = some (.string x) := by
          have e : a.add 0 = a := by unfold Addr.add; simp
          rw [e] at c0
          exact c0
        have hl := rleaf_any z x w (hx x (by simp)) hT
        rw [← rootH_one] at hl
        have HL := hide hl; clear hl hT hx hcl c0
        show Calls Tryd.prog 10 #[.int .i64 z, .slice (some a) 1 c] w _
        go_enter Tryd.func10, Tryd.ntmps10
        go_wp2_with fail
        refine (unhide HL).mono ?_
        rintro e w1 ⟨rfl, hb⟩
        go_wp2_with fail
        go_ret
        exact ⟨rfl, hb⟩
    · obtain ⟨m', rfl⟩ : ∃ m', m = m' + 1 := ⟨m - 1, by omega⟩
      obtain ⟨hk1, hk2⟩ := splitN_lt h2
      obtain ⟨a, rfl⟩ : ∃ a, A = some a := by
        obtain ⟨A', c', hv, hcl⟩ := hS
        injection hv with e1 e2 e3
        subst e1
        obtain ⟨a, ha, -⟩ := hcl 0 (by omega)
        exact ⟨a, ha⟩
      have hha := rsplit_any es.length w h2 hn
      have hck : ¬ c = splitN es.length := by omega
      have hF := hS.front (splitN es.length) c (by omega)
      have hB := hS.back (splitN es.length) (c - splitN es.length) (by omega)
      have hrt := rootH_more (z := z) h2
      have hlt : (es.take (splitN es.length)).length = splitN es.length := by rw [List.length_take]; omega
      have hld : (es.drop (splitN es.length)).length = es.length - splitN es.length := by rw [List.length_drop]
      have ih1 := fun W (h : StrsAt W (.slice (some a) (splitN es.length) c) (es.take (splitN es.length))) (hT : RTab W) => rroot_any z m' (es.take (splitN es.length)) (some a) c W (by omega) (by omega) (by omega) (fun x h => hx x (List.mem_of_mem_take h)) (by rw [hlt]; exact h) hT
      have ih2 := fun W (h : StrsAt W (.slice (some (a.add (splitN es.length))) (es.length - splitN es.length) (c - splitN es.length)) (es.drop (splitN es.length))) (hT : RTab W) => rroot_any z m' (es.drop (splitN es.length)) (some (a.add (splitN es.length))) (c - splitN es.length) W (by omega) (by omega) (by omega) (fun x h => hx x (List.mem_of_mem_drop h)) (by rw [hld]; exact h) hT
      rw [hlt] at ih1
      rw [hld] at ih2
      have hr1 := rootH_size z (es.take (splitN es.length))
      have hr2 := rootH_size z (es.drop (splitN es.length))
      generalize rootH z (es.take (splitN es.length)) = R1 at *
      generalize rootH z (es.drop (splitN es.length)) = R2 at *
      generalize splitN es.length = k at *
      generalize es.take k = e1 at *
      generalize es.drop k = e2 at *
      have HRT := Lib.hid hrt; have HH := hide hha; have H1 := hide ih1; have H2 := hide ih2; have HS := hide (And.intro hF (And.intro hB hT))
      clear hrt hha ih1 ih2 hF hB hT hS hx hlt hld
      have h20 : ((es.length : Int) == 0) = false := by rw [beq_eq_false_iff_ne]; omega
      have h21 : ((es.length : Int) == 1) = false := by rw [beq_eq_false_iff_ne]; omega
      go_enter Tryd.func10, Tryd.ntmps10
      go_wp2_with fail
      refine (unhide HH).mono ?_
      rintro e w1 ⟨rfl, rfl⟩
      have i1 : (k : Int) ≤ (es.length : Int) := by omega
      have i2 : (k : Int) ≤ (c : Int) := by omega
      have i3 : (0 : Int) ≤ (k : Int) := by omega
      go_wp2_with fail
      refine (unhide H1 w (unhide HS).1 (unhide HS).2.2).mono ?_
      rintro e w2 ⟨rfl, hb2⟩
      have hb2' : Below w.heap.size w w2 := hb2
      have HB2 := hide hb2'; clear hb2 hb2'
      go_wp2_with fail
      refine (unhide H2 w2 ((unhide HS).2.1.below (unhide HB2)) ((unhide HS).2.2.next (unhide HB2))).mono ?_
      rintro e w3 ⟨rfl, hb3⟩
      have hb3' := (unhide HB2).trans (hb3.mono (unhide HB2).size)
      have HB3 := hide hb3'; clear hb3 hb3'
      go_wp2_with fail
      refine (rnode_any z R1 R2 w3 (by omega) (by omega) ((unhide HS).2.2.next (unhide HB3))).mono ?_
      rintro e w4 ⟨rfl, hb4⟩
      have hb4' := (unhide HB3).trans (hb4.mono (unhide HB3).size)
      have HB4 := hide hb4'; clear hb4 hb4'
      go_wp2_with fail
      go_ret
      exact ⟨ret_str (by rw [HRT.out]), unhide HB4⟩
end Go.Proofs.YtmkecanibedahaaDoor

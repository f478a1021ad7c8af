/-
  CONTRACTS of the law's sameTexts, sameRequest on any requests: an answer comes.
-/
import Derived.Test.YtphjpdnheaeghaaDoorRows
import Derived.Test.YtphjpdnheaeghaaDoorWd
import Derived.Test.YtphjpdnheaeghaaDoorSameQ
import Derived.Test.YtphjpdnheaeghaaDoorUnDec
set_option linter.unusedVariables false
set_option linter.unusedSimpArgs false
namespace Go.Proofs.YtphjpdnheaeghaaDoor
open Go.RowKit Go.Lib
def SomeB (e : Ending) : Prop := ∃ b, e = .returned (.bool b)
set_option maxRecDepth 100000 in
set_option maxHeartbeats 2000000 in
theorem sameTexts22_some (v1 v2 : Value) (l1 l2 : List ByteArray) (w : World) (hn1 : l1.length ≤ 562949953421312) (hn2 : l2.length ≤ 562949953421312) (h1 : StrsAt w v1 l1) (h2 : StrsAt w v2 l2) :
    Calls Tryd.prog 25 #[v1, v2] w fun e w' => SomeB e ∧ ∃ n, w' = w.drewN n := by
  obtain ⟨A, c, rfl, -⟩ := id h1
  obtain ⟨B, d, rfl, -⟩ := id h2
  have H := hide (And.intro h1 h2); clear h1 h2
  go_enter Tryd.func25, Tryd.ntmps25
  by_cases hl : l1.length = l2.length
  · obtain ⟨n, hn⟩ : ∃ n, Hid (l2.length = n) := ⟨_, Lib.hid rfl⟩
    have hm : Hid (l1.length = n) := Lib.hid (hl.trans hn.out)
    rw [hn.out, hm.out]
    rw [hm.out] at hn1
    clear hl hn2
    go_wp2_with fail
    go_loopw [5] (fun i wr => ∃ k : Nat, i = .int .i64 (k : Int) ∧ k ≤ n ∧ ∃ nd, Hid (wr = w.drewN nd)) (fun i _ => n - (RowKit.intOf i).toNat)
    case atStart => exact ⟨0, rfl, by omega, 0, Lib.hid rfl⟩
    case round =>
      obtain ⟨k, rfl, hk, nd, hw⟩ := hrel
      have hw' := hw.out
      subst hw'
      rcases Nat.lt_or_ge k n with hlt | hge
      · have t0 : (0 : Int) ≤ (k : Int) := by omega
        have qb : k ≤ 562949953421312 := by omega
        have t1 : (k : Int) < (n : Int) := by omega
        obtain ⟨a, rfl, ca⟩ := strsP_at (unhide H).1 k (by rw [hm.out]; exact hlt)
        obtain ⟨b, rfl, cb⟩ := strsP_at (unhide H).2 k (by rw [hn.out]; exact hlt)
        have da : (w.drewN nd).cell? (a.add k) = some (.string (l1[k]'(by rw [hm.out]; exact hlt))) := ca
        have db : (w.drewN nd).cell? (b.add k) = some (.string (l2[k]'(by rw [hn.out]; exact hlt))) := cb
        generalize l1[k]'(by rw [hm.out]; exact hlt) = x at *
        generalize l2[k]'(by rw [hn.out]; exact hlt) = y at *
        by_cases hxy : x = y
        · have hss : (x.toList == y.toList) = true := by rw [hxy]; exact beq_self_eq_true _
          have hs2 : x.toList = y.toList := by rw [hxy]
          clear hxy
          go_wp2_with fail
          go_quiet (fail)
          go_wp2_with fail
          go_roundw
          case rel => exact ⟨k + 1, by go_num, by omega, nd + nq, Lib.hid rfl⟩
          case measure => simp [RowKit.intOf]; omega
        · have hss := toList_ne hxy
          have hs2 : ¬ x.toList = y.toList := by rw [beq_eq_false_iff_ne] at hss; exact hss
          clear hxy
          go_wp2_with fail
          go_quiet (fail)
          go_wp2_with fail
          go_ret
          exact ⟨⟨_, rfl⟩, nd + nq, by simp [World.drewN, Nat.add_assoc]⟩
      · have t1 : ¬ (k : Int) < (n : Int) := by omega
        go_wp2_with fail
        go_ret
        exact ⟨⟨_, rfl⟩, nd, rfl⟩
  · have y1 : ((l1.length : Int) == (l2.length : Int)) = false := by rw [beq_eq_false_iff_ne]; omega
    have y2 : ¬ (l1.length : Int) = (l2.length : Int) := by omega
    go_wp2_with fail
    go_ret
    exact ⟨⟨_, rfl⟩, 0, rfl⟩
set_option maxRecDepth 100000 in
set_option maxHeartbeats 2000000 in
theorem sameRequest22_some (c c' : Int) (vs us : Value) (S S' : List ByteArray) (nt nt' : ByteArray) (w : World) (hs : S.length ≤ 562949953421312) (hs' : S'.length ≤ 562949953421312) (h3 : StrsAt w vs S) (h4 : StrsAt w us S') :
    Calls Tryd.prog 9 #[.agg #[.int .i64 c, vs, .string nt], .agg #[.int .i64 c', us, .string nt']] w fun e w' => SomeB e ∧ Below w.heap.size w w' := by
  have hb : Below w.heap.size w ((w.alloc (.cells #[.int .i64 c, vs, .string nt] 24)).alloc (.cells #[.int .i64 c', us, .string nt'] 24)) := ((Below.refl _ _).alloc (Nat.le_refl _) _).alloc (by simp) _
  have hST := sameTexts22_some vs us S S' ((w.alloc (.cells #[.int .i64 c, vs, .string nt] 24)).alloc (.cells #[.int .i64 c', us, .string nt'] 24)) hs hs' (h3.below hb) (h4.below hb)
  have hB1 := (Blk.new w 24 #[.int .i64 c, vs, .string nt]).alloc (.cells #[.int .i64 c', us, .string nt'] 24)
  have hB2 := Blk.new (w.alloc (.cells #[.int .i64 c, vs, .string nt] 24)) 24 #[.int .i64 c', us, .string nt']
  rw [World.size_alloc] at hB2
  obtain ⟨A3, c3, rfl, -⟩ := id h3
  obtain ⟨A4, c4, rfl, -⟩ := id h4
  have HT := hide hST; have HB := hide hb; have HB1 := hide (And.intro hB1 hB2)
  clear hST hb hB1 hB2 h3 h4
  go_enter Tryd.func9, Tryd.ntmps9
  go_upto_region 1 with fail
  generalize ((w.alloc (.cells #[.int .i64 c, .slice A3 S.length c3, .string nt] 24)).alloc (.cells #[.int .i64 c', .slice A4 S'.length c4, .string nt'] 24)) = w2 at *
  have j1 := (unhide HB1).1.cell 1; have j2 := (unhide HB1).2.cell 1
  simp only [List.getElem?_toArray, List.getElem?_cons_zero, List.getElem?_cons_succ] at j1 j2
  go_wp2_with fail
  refine (unhide HT).mono ?_
  rintro e2 w4 ⟨⟨bb, rfl⟩, n2, rfl⟩
  have k0 : (w2.drewN n2).cell? ⟨w.heap.size, 0, none⟩ = some (.int .i64 c) := (unhide HB1).1.cell 0
  have l0 : (w2.drewN n2).cell? ⟨w.heap.size + 1, 0, none⟩ = some (.int .i64 c') := (unhide HB1).2.cell 0
  have k2 : (w2.drewN n2).cell? ⟨w.heap.size, 2, none⟩ = some (.string nt) := (unhide HB1).1.cell 2
  have l2 : (w2.drewN n2).cell? ⟨w.heap.size + 1, 2, none⟩ = some (.string nt') := (unhide HB1).2.cell 2
  clear j1 j2 HT
  have hend : ∀ n, Below w.heap.size w (w2.drewN n) := fun n => ⟨(unhide HB).os, (unhide HB).tape, (unhide HB).output, (unhide HB).size, (unhide HB).block⟩
  cases bb with
  | false =>
    go_wp2_with fail
    go_ret
    exact ⟨⟨_, rfl⟩, hend _⟩
  | true =>
    by_cases hcc : c = c'
    · have x1 : (c == c') = true := by rw [hcc]; exact beq_self_eq_true _
      by_cases hnn : nt = nt'
      · have y1 : (nt.toList == nt'.toList) = true := by rw [hnn]; exact beq_self_eq_true _
        have y2 : nt.toList = nt'.toList := by rw [hnn]
        clear hnn
        go_wp2_with fail
        go_ret
        exact ⟨⟨_, rfl⟩, hend _⟩
      · have y1 := toList_ne hnn
        have y2 : ¬ nt.toList = nt'.toList := by rw [beq_eq_false_iff_ne] at y1; exact y1
        clear hnn
        go_wp2_with fail
        go_ret
        exact ⟨⟨_, rfl⟩, hend _⟩
    · have x1 : (c == c') = false := by rw [beq_eq_false_iff_ne]; exact hcc
      go_wp2_with fail
      go_ret
      exact ⟨⟨_, rfl⟩, hend _⟩
end Go.Proofs.YtphjpdnheaeghaaDoor

/-
  CONTRACTS of watch.Judge and of the document's Judge.
-/
import Derived.Test.YtnkkpfomoodmjaaGreatDoorRows
import Derived.Test.YtnkkpfomoodmjaaGreatDoorGBase
import Derived.Test.YtnkkpfomoodmjaaGreatDoorSPtOf
import Derived.Test.YtnkkpfomoodmjaaGreatDoorSRPtOf
set_option linter.unusedVariables false
set_option linter.unusedSimpArgs false
namespace Go.Proofs.YtnkkpfomoodmjaaGreatDoor
open Go.RowKit Go.Lib
/-- The evidence shows that the key signed two views. -/
def JudgeIs (k : KeyR) (a b : ByteArray) (z : Nat) : Prop :=
  (z = 0 ∧ ∃ n r1 r2, PtIs k a n r1 ∧ PtIs k b n r2 ∧ r1 ≠ r2) ∨ (z = 243 ∧ ¬ ∃ n r1 r2, PtIs k a n r1 ∧ PtIs k b n r2 ∧ r1 ≠ r2)
theorem JudgeIs.same {k : KeyR} {a b : ByteArray} {z z' : Nat} (h : JudgeIs k a b z) (h' : JudgeIs k a b z') : z = z' := by
  rcases h with ⟨rfl, h⟩ | ⟨rfl, h⟩ <;> rcases h' with ⟨rfl, h'⟩ | ⟨rfl, h'⟩
  · rfl
  · exact absurd h h'
  · exact absurd h' h
  · rfl
theorem JudgeIs.small {k : KeyR} {a b : ByteArray} {z : Nat} (h : JudgeIs k a b z) : z < 1000 := by
  rcases h with ⟨rfl, -⟩ | ⟨rfl, -⟩ <;> decide
theorem JudgeIs.no1 {k : KeyR} {a b : ByteArray} (h : ∀ n r, ¬ PtIs k a n r) : JudgeIs k a b 243 := .inr ⟨rfl, fun ⟨n, r1, _, h1, _⟩ => h n r1 h1⟩
theorem JudgeIs.no2 {k : KeyR} {a b : ByteArray} (h : ∀ n r, ¬ PtIs k b n r) : JudgeIs k a b 243 := .inr ⟨rfl, fun ⟨n, _, r2, _, h2, _⟩ => h n r2 h2⟩
theorem JudgeIs.both {k : KeyR} {a b : ByteArray} {n m : Int} {r1 r2 : ByteArray} (h1 : PtIs k a n r1) (h2 : PtIs k b m r2) : (n = m ∧ r1 ≠ r2 → JudgeIs k a b 0) ∧ (¬ (n = m ∧ r1 ≠ r2) → JudgeIs k a b 243) := by
  refine ⟨fun ⟨e, hne⟩ => .inl ⟨rfl, n, r1, r2, h1, e ▸ h2, hne⟩, fun hno => .inr ⟨rfl, ?_⟩⟩
  rintro ⟨n', s1, s2, k1, k2, hne⟩
  obtain ⟨e1, rfl⟩ := h1.one k1
  obtain ⟨e2, rfl⟩ := h2.one k2
  exact hno ⟨by omega, hne⟩
set_option maxRecDepth 100000 in
set_option maxHeartbeats 4000000 in
theorem judge_any (k : KeyR) (a b : ByteArray) (w : World) (ha : a.size ≤ 1048576) (hb : b.size ≤ 1048576) (hk1 : k.nm.size ≤ 1048576) (hk2 : k.sc.size ≤ 1048576) (hT : LT w) :
    Calls Tryz.prog 4 #[.agg #[.string k.nm, .string k.sc], .agg #[.string a, .string b]] w fun e w' => ∃ z : Nat, e = .returned (.int .i64 (z : Int)) ∧ JudgeIs k a b z ∧ Below w.heap.size w w' := by
  have hp1 := fun W hT => point_any k a W ha hk1 hk2 hT
  have hp2 := fun W hT => point_any k b W hb hk1 hk2 hT
  have hK1 := (Blk.new w 23 #[.string k.nm, .string k.sc]).alloc (.cells #[.string a, .string b] 25)
  have hE1 := Blk.new (w.alloc (.cells #[.string k.nm, .string k.sc] 23)) 25 #[.string a, .string b]
  have hz1 : (w.alloc (.cells #[.string k.nm, .string k.sc] 23)).heap.size = w.heap.size + 1 := by simp
  rw [hz1] at hE1
  have hb1 : Below w.heap.size w ((w.alloc (.cells #[.string k.nm, .string k.sc] 23)).alloc (.cells #[.string a, .string b] 25)) := ((Below.refl _ _).alloc (Nat.le_refl _) _).alloc (by simp) _
  have hT1 := hT.next hb1
  have H1 := hide (And.intro hb1 (And.intro hK1 (And.intro hE1 hT1)))
  have HP1 := hide hp1; have HP2 := hide hp2; clear hp1 hp2 hT hb1 hK1 hE1 hT1 hz1
  go_enter Tryz.func4, Tryz.ntmps4
  go_wp2_with fail
  generalize ((w.alloc (.cells #[.string k.nm, .string k.sc] 23)).alloc (.cells #[.string a, .string b] 25)) = w1 at *
  generalize hg0 : w.heap.size = g0 at *
  refine ((unhide HP1) _ (unhide H1).2.2.2).mono ?_
  rintro e w2 ⟨⟨o1, n1, r1, A1, l1, c1, z1, rfl, hz1, hA1⟩, hb2⟩
  have hba : Below w2.heap.size w2 (w2.alloc (.cells #[.string o1, .int .i64 n1, .string r1, .slice A1 l1 c1] 32)) := (Below.refl _ _).alloc (Nat.le_refl _) _
  have hb2a := hb2.trans (hba.mono hb2.size)
  have hw2 : Below g0 w (w2.alloc (.cells #[.string o1, .int .i64 n1, .string r1, .slice A1 l1 c1] 32)) := (unhide H1).1.trans (hb2a.mono (by have := (unhide H1).1.size; omega))
  have hK2 := (unhide H1).2.1.below hb2a (unhide H1).2.1.lt
  have hE2 := (unhide H1).2.2.1.below hb2a (unhide H1).2.2.1.lt
  have hT2 := (unhide H1).2.2.2.next hb2a
  have hO2 := Blk.new w2 32 #[.string o1, .int .i64 n1, .string r1, .slice A1 l1 c1]
  have k0 := hK2.cell 0; have k1 := hK2.cell 1; have e0 := hE2.cell 0; have e1 := hE2.cell 1
  simp only [List.getElem?_toArray, List.getElem?_cons_zero, List.getElem?_cons_succ] at k0 k1 e0 e1
  have H2 := hide (And.intro hw2 (And.intro hO2 hT2)); clear hw2 hO2 hT2 hK2 hE2 hba hb2a hb2 H1 HP1
  go_wp2_with fail
  generalize (w2.alloc (.cells #[.string o1, .int .i64 n1, .string r1, .slice A1 l1 c1] 32)) = w2' at *
  generalize w2.heap.size = g2 at *
  refine ((unhide HP2) _ (unhide H2).2.2).mono ?_
  rintro e w3 ⟨⟨o2, n2, r2, A2, l2, c2, z2, rfl, hz2, hA2⟩, hb3⟩
  have hba : Below w3.heap.size w3 (w3.alloc (.cells #[.string o2, .int .i64 n2, .string r2, .slice A2 l2 c2] 32)) := (Below.refl _ _).alloc (Nat.le_refl _) _
  have hb3a := hb3.trans (hba.mono hb3.size)
  have hw3 : Below g0 w (w3.alloc (.cells #[.string o2, .int .i64 n2, .string r2, .slice A2 l2 c2] 32)) := (unhide H2).1.trans (hb3a.mono (by have := (unhide H2).1.size; omega))
  have hO3 := (unhide H2).2.1.below hb3a (unhide H2).2.1.lt
  have hP3 := Blk.new w3 32 #[.string o2, .int .i64 n2, .string r2, .slice A2 l2 c2]
  clear k0 k1 e0 e1 H2 HP2 hb3 hba hb3a
  have m0 := hO3.cell 0; have m1 := hO3.cell 1; have m2 := hO3.cell 2
  have p0 := hP3.cell 0; have p1 := hP3.cell 1; have p2 := hP3.cell 2
  simp only [List.getElem?_toArray, List.getElem?_cons_zero, List.getElem?_cons_succ] at m0 m1 m2 p0 p1 p2
  have HW := hide hw3; clear hw3 hO3 hP3
  rcases hA1 with ⟨rfl, hA1⟩ | ⟨hn1, hA1⟩
  · rcases hA2 with ⟨rfl, hA2⟩ | ⟨hn2, hA2⟩
    · obtain ⟨hy, hn⟩ := JudgeIs.both hA1 hA2
      have HY := hide hy; have HN := hide hn; clear hy hn hA1 hA2
      by_cases hnn : n1 = n2
      · have q1 : (n1 == n2) = true := by rw [hnn]; exact beq_self_eq_true _
        by_cases hrr : r1 = r2
        · subst hrr
          have q2 : (r1.toList == r1.toList) = true := beq_self_eq_true _
          have hj := (unhide HN) (fun h => h.2 rfl)
          have HJ := hide hj; clear hj HY HN
          subst hnn
          go_wp2_with fail
          go_ret
          exact ⟨243, rfl, unhide HJ, by rw [hg0]; exact unhide HW⟩
        · have q2 : (r1.toList == r2.toList) = false := toList_ne hrr
          have hj := (unhide HY) ⟨hnn, hrr⟩
          have HJ := hide hj; clear hj HY HN
          subst hnn
          go_wp2_with fail
          go_ret
          exact ⟨0, rfl, unhide HJ, by rw [hg0]; exact unhide HW⟩
      · have q1 : (n1 == n2) = false := by rw [beq_eq_false_iff_ne]; exact hnn
        have hj := (unhide HN) (fun h => hnn h.1)
        have HJ := hide hj; clear hj HY HN
        go_wp2_with fail
        go_ret
        exact ⟨243, rfl, unhide HJ, by rw [hg0]; exact unhide HW⟩
    · have q1 : ((z2 : Int) == 0) = false := by rw [beq_eq_false_iff_ne]; omega
      have HJ := hide (JudgeIs.no2 (a := a) hA2); clear hA1 hA2
      go_wp2_with fail
      go_ret
      exact ⟨243, rfl, unhide HJ, by rw [hg0]; exact unhide HW⟩
  · have q1 : ((z1 : Int) == 0) = false := by rw [beq_eq_false_iff_ne]; omega
    have HJ := hide (JudgeIs.no1 (b := b) hA1); clear hA1 hA2
    go_wp2_with fail
    go_ret
    exact ⟨243, rfl, unhide HJ, by rw [hg0]; exact unhide HW⟩
set_option maxRecDepth 100000 in
set_option maxHeartbeats 4000000 in
theorem rjudge_any (k : KeyR) (a b : ByteArray) (w : World) (ha : a.size ≤ 1048576) (hb : b.size ≤ 1048576) (hk1 : k.nm.size ≤ 1048576) (hk2 : k.sc.size ≤ 1048576) (hT : LT w) :
    Calls Tryz.prog 5 #[.agg #[.string k.nm, .string k.sc], .agg #[.string a, .string b]] w fun e w' => ∃ z : Nat, e = .returned (.int .i64 (z : Int)) ∧ JudgeIs k a b z ∧ Below w.heap.size w w' := by
  have hp1 := fun W hT => rpoint_any k a W ha hk1 hk2 hT
  have hp2 := fun W hT => rpoint_any k b W hb hk1 hk2 hT
  have hK1 := (Blk.new w 23 #[.string k.nm, .string k.sc]).alloc (.cells #[.string a, .string b] 25)
  have hE1 := Blk.new (w.alloc (.cells #[.string k.nm, .string k.sc] 23)) 25 #[.string a, .string b]
  have hz1 : (w.alloc (.cells #[.string k.nm, .string k.sc] 23)).heap.size = w.heap.size + 1 := by simp
  rw [hz1] at hE1
  have hb1 : Below w.heap.size w ((w.alloc (.cells #[.string k.nm, .string k.sc] 23)).alloc (.cells #[.string a, .string b] 25)) := ((Below.refl _ _).alloc (Nat.le_refl _) _).alloc (by simp) _
  have hT1 := hT.next hb1
  have H1 := hide (And.intro hb1 (And.intro hK1 (And.intro hE1 hT1)))
  have HP1 := hide hp1; have HP2 := hide hp2; clear hp1 hp2 hT hb1 hK1 hE1 hT1 hz1
  go_enter Tryz.func5, Tryz.ntmps5
  go_wp2_with fail
  generalize ((w.alloc (.cells #[.string k.nm, .string k.sc] 23)).alloc (.cells #[.string a, .string b] 25)) = w1 at *
  generalize hg0 : w.heap.size = g0 at *
  refine ((unhide HP1) _ (unhide H1).2.2.2).mono ?_
  rintro e w2 ⟨⟨o1, n1, r1, A1, l1, c1, z1, rfl, hz1, hA1⟩, hb2⟩
  have hba : Below w2.heap.size w2 (w2.alloc (.cells #[.string o1, .int .i64 n1, .string r1, .slice A1 l1 c1] 32)) := (Below.refl _ _).alloc (Nat.le_refl _) _
  have hb2a := hb2.trans (hba.mono hb2.size)
  have hw2 : Below g0 w (w2.alloc (.cells #[.string o1, .int .i64 n1, .string r1, .slice A1 l1 c1] 32)) := (unhide H1).1.trans (hb2a.mono (by have := (unhide H1).1.size; omega))
  have hK2 := (unhide H1).2.1.below hb2a (unhide H1).2.1.lt
  have hE2 := (unhide H1).2.2.1.below hb2a (unhide H1).2.2.1.lt
  have hT2 := (unhide H1).2.2.2.next hb2a
  have hO2 := Blk.new w2 32 #[.string o1, .int .i64 n1, .string r1, .slice A1 l1 c1]
  have k0 := hK2.cell 0; have k1 := hK2.cell 1; have e0 := hE2.cell 0; have e1 := hE2.cell 1
  simp only [List.getElem?_toArray, List.getElem?_cons_zero, List.getElem?_cons_succ] at k0 k1 e0 e1
  have H2 := hide (And.intro hw2 (And.intro hO2 hT2)); clear hw2 hO2 hT2 hK2 hE2 hba hb2a hb2 H1 HP1
  go_wp2_with fail
  generalize (w2.alloc (.cells #[.string o1, .int .i64 n1, .string r1, .slice A1 l1 c1] 32)) = w2' at *
  generalize w2.heap.size = g2 at *
  refine ((unhide HP2) _ (unhide H2).2.2).mono ?_
  rintro e w3 ⟨⟨o2, n2, r2, A2, l2, c2, z2, rfl, hz2, hA2⟩, hb3⟩
  have hba : Below w3.heap.size w3 (w3.alloc (.cells #[.string o2, .int .i64 n2, .string r2, .slice A2 l2 c2] 32)) := (Below.refl _ _).alloc (Nat.le_refl _) _
  have hb3a := hb3.trans (hba.mono hb3.size)
  have hw3 : Below g0 w (w3.alloc (.cells #[.string o2, .int .i64 n2, .string r2, .slice A2 l2 c2] 32)) := (unhide H2).1.trans (hb3a.mono (by have := (unhide H2).1.size; omega))
  have hO3 := (unhide H2).2.1.below hb3a (unhide H2).2.1.lt
  have hP3 := Blk.new w3 32 #[.string o2, .int .i64 n2, .string r2, .slice A2 l2 c2]
  clear k0 k1 e0 e1 H2 HP2 hb3 hba hb3a
  have m0 := hO3.cell 0; have m1 := hO3.cell 1; have m2 := hO3.cell 2
  have p0 := hP3.cell 0; have p1 := hP3.cell 1; have p2 := hP3.cell 2
  simp only [List.getElem?_toArray, List.getElem?_cons_zero, List.getElem?_cons_succ] at m0 m1 m2 p0 p1 p2
  have HW := hide hw3; clear hw3 hO3 hP3
  rcases hA1 with ⟨rfl, hA1⟩ | ⟨hn1, hA1⟩
  · rcases hA2 with ⟨rfl, hA2⟩ | ⟨hn2, hA2⟩
    · obtain ⟨hy, hn⟩ := JudgeIs.both hA1 hA2
      have HY := hide hy; have HN := hide hn; clear hy hn hA1 hA2
      by_cases hnn : n1 = n2
      · have q1 : (n1 == n2) = true := by rw [hnn]; exact beq_self_eq_true _
        by_cases hrr : r1 = r2
        · subst hrr
          have q2 : (r1.toList == r1.toList) = true := beq_self_eq_true _
          have hj := (unhide HN) (fun h => h.2 rfl)
          have HJ := hide hj; clear hj HY HN
          subst hnn
          go_wp2_with fail
          go_ret
          exact ⟨243, rfl, unhide HJ, by rw [hg0]; exact unhide HW⟩
        · have q2 : (r1.toList == r2.toList) = false := toList_ne hrr
          have hj := (unhide HY) ⟨hnn, hrr⟩
          have HJ := hide hj; clear hj HY HN
          subst hnn
          go_wp2_with fail
          go_ret
          exact ⟨0, rfl, unhide HJ, by rw [hg0]; exact unhide HW⟩
      · have q1 : (n1 == n2) = false := by rw [beq_eq_false_iff_ne]; exact hnn
        have hj := (unhide HN) (fun h => hnn h.1)
        have HJ := hide hj; clear hj HY HN
        go_wp2_with fail
        go_ret
        exact ⟨243, rfl, unhide HJ, by rw [hg0]; exact unhide HW⟩
    · have q1 : ((z2 : Int) == 0) = false := by rw [beq_eq_false_iff_ne]; omega
      have HJ := hide (JudgeIs.no2 (a := a) hA2); clear hA1 hA2
      go_wp2_with fail
      go_ret
      exact ⟨243, rfl, unhide HJ, by rw [hg0]; exact unhide HW⟩
  · have q1 : ((z1 : Int) == 0) = false := by rw [beq_eq_false_iff_ne]; omega
    have HJ := hide (JudgeIs.no1 (b := b) hA1); clear hA1 hA2
    go_wp2_with fail
    go_ret
    exact ⟨243, rfl, unhide HJ, by rw [hg0]; exact unhide HW⟩
end Go.Proofs.YtnkkpfomoodmjaaGreatDoor

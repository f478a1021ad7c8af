/-
  CONTRACT of the document's opened: the checkpoint that a note by a key tells.
-/
import Derived.Test.YtnkkpfomoodmjaaGreatDoorRows
import Derived.Test.YtnkkpfomoodmjaaGreatDoorGBase
import Derived.Test.YtnkkpfomoodmjaaGreatDoorSPtOf
set_option linter.unusedVariables false
set_option linter.unusedSimpArgs false
namespace Go.Proofs.YtnkkpfomoodmjaaGreatDoor
open Go.RowKit Go.Lib
set_option maxRecDepth 100000 in
set_option maxHeartbeats 4000000 in
theorem rpoint_any (k : KeyR) (s : ByteArray) (w : World) (hs : s.size ≤ 1048576) (hk1 : k.nm.size ≤ 1048576) (hk2 : k.sc.size ≤ 1048576) (hT : LT w) :
    Calls Tryz.prog 7 #[.string s, .agg #[.string k.nm, .string k.sc]] w fun e w' => PtA k s e ∧ Below w.heap.size w w' := by
  obtain ⟨kn, ksc⟩ := k
  simp only at hk1 hk2 ⊢
  have HT := hide hT; clear hT
  go_enter Tryz.func7, Tryz.ntmps7
  go_wp2_with fail
  have hA0 := (Blk.new w 23 #[.string kn, .string ksc]).alloc (.cells #[.string ⟨#[]⟩, .int .i64 0, .string ⟨#[]⟩, .slice none 0 0] 32)
  have hA1 := hA0.alloc (.cells #[.string kn, .string ksc] 23)
  have hC1 := (Blk.new (w.alloc (.cells #[.string kn, .string ksc] 23)) 32 #[.string ⟨#[]⟩, .int .i64 0, .string ⟨#[]⟩, .slice none 0 0]).alloc (.cells #[.string kn, .string ksc] 23)
  have hK1 := Blk.new ((w.alloc (.cells #[.string kn, .string ksc] 23)).alloc (.cells #[.string ⟨#[]⟩, .int .i64 0, .string ⟨#[]⟩, .slice none 0 0] 32)) 23 #[.string kn, .string ksc]
  have hb1 : Below w.heap.size w (((w.alloc (.cells #[.string kn, .string ksc] 23)).alloc (.cells #[.string ⟨#[]⟩, .int .i64 0, .string ⟨#[]⟩, .slice none 0 0] 32)).alloc (.cells #[.string kn, .string ksc] 23)) := (((Below.refl _ _).alloc (Nat.le_refl _) _).alloc (by simp) _).alloc (by simp; omega) _
  have hz1 : (w.alloc (.cells #[.string kn, .string ksc] 23)).heap.size = w.heap.size + 1 := by simp
  have hz2 : ((w.alloc (.cells #[.string kn, .string ksc] 23)).alloc (.cells #[.string ⟨#[]⟩, .int .i64 0, .string ⟨#[]⟩, .slice none 0 0] 32)).heap.size = w.heap.size + 1 + 1 := by simp
  rw [hz1] at hC1
  rw [hz2] at hK1
  generalize (((w.alloc (.cells #[.string kn, .string ksc] 23)).alloc (.cells #[.string ⟨#[]⟩, .int .i64 0, .string ⟨#[]⟩, .slice none 0 0] 32)).alloc (.cells #[.string kn, .string ksc] 23)) = w1 at *
  clear hz1 hz2 hA0
  have hKA : KeysAt w1 (.slice (some ⟨w.heap.size + 1 + 1, 0, none⟩) 1 1) [⟨kn, ksc⟩] := by
    refine ⟨some ⟨w.heap.size + 1 + 1, 0, none⟩, 1, rfl, fun j hj => ⟨_, rfl, ?_⟩⟩
    have : j = 0 := by simp at hj; omega
    subst this
    have c0 := hK1.cell 0; have c1 := hK1.cell 1
    simp only [List.getElem?_toArray, List.getElem?_cons_zero, List.getElem?_cons_succ] at c0 c1
    exact ⟨c0, c1⟩
  have hT1 := (unhide HT).next hb1
  have hop := ropen_any s _ [⟨kn, ksc⟩] w1 (by omega) (fun k hk => by simp at hk; subst hk; exact ⟨by simp only; omega, by simp only; omega⟩) (by simp) hKA hT1.2.1
  have H1 := hide (And.intro hb1 (And.intro hA1 (And.intro hC1 hT1))); clear hb1 hA1 hC1 hT1 hK1 hKA HT
  generalize hg0 : w.heap.size = g0 at *
  refine hop.mono ?_
  rintro e w2 ⟨hR, hb2⟩
  obtain ⟨vg, vr, rfl, hog, hor, -⟩ := hR.parts
  have hxs := openX_size s [⟨kn, ksc⟩]
  have hxn := openX_len s [⟨kn, ksc⟩]
  have hpt : ∀ n r, PtIs ⟨kn, ksc⟩ s n r ↔ ∃ q, (openX s [⟨kn, ksc⟩]).2.2.2 = 0 ∧ ParseR (openX s [⟨kn, ksc⟩]).1 q ∧ q.o = kn ∧ q.n = n ∧ q.r = r := fun n r => Iff.rfl
  obtain ⟨Ag, cg, rfl⟩ := hog.slice
  obtain ⟨Ar, cr, rfl⟩ := hor.slice
  generalize openX s [⟨kn, ksc⟩] = X at *
  obtain ⟨T, G, R, z⟩ := X
  simp only at hxs hxn hpt hog hor ⊢
  have hw2 : Below g0 w w2 := (unhide H1).1.trans (hb2.mono (by have := (unhide H1).1.size; omega))
  have hA2 := (unhide H1).2.1.below hb2 (unhide H1).2.1.lt
  have hC2 := (unhide H1).2.2.1.below hb2 (unhide H1).2.2.1.lt
  have hT2 := (unhide H1).2.2.2.next hb2
  have H2 := hide (And.intro hw2 (And.intro hA2 (And.intro hC2 hT2))); have HPT := hide hpt; clear hw2 hA2 hC2 hT2 H1 hop hR hog hor hb2 hpt
  have hC3 := (unhide H2).2.2.1.alloc (.cells #[.string T, .slice Ag G.length cg, .slice Ar R.length cr] 39)
  have k0 := hC3.cell 0; have k1 := hC3.cell 1; have k2 := hC3.cell 2; have k3 := hC3.cell 3
  have f0 := hC3.frozen 0; have f1 := hC3.frozen 1; have f2 := hC3.frozen 2; have f3 := hC3.frozen 3
  have hO3 := Blk.new w2 39 #[.string T, .slice Ag G.length cg, .slice Ar R.length cr]
  have o0 := hO3.cell 0
  simp only [List.getElem?_toArray, List.getElem?_cons_zero, List.getElem?_cons_succ] at k0 k1 k2 k3 o0
  have hba : Below w2.heap.size w2 (w2.alloc (.cells #[.string T, .slice Ag G.length cg, .slice Ar R.length cr] 39)) := (Below.refl _ _).alloc (Nat.le_refl _) _
  have hw3 : Below g0 w (w2.alloc (.cells #[.string T, .slice Ag G.length cg, .slice Ar R.length cr] 39)) := (unhide H2).1.trans (hba.mono (by have := (unhide H2).1.size; omega))
  have H3 := hide (And.intro hw3 (And.intro ((unhide H2).2.1.alloc (.cells #[.string T, .slice Ag G.length cg, .slice Ar R.length cr] 39)) (And.intro hC3 ((unhide H2).2.2.2.next hba)))); clear hw3 hC3 hba H2 hO3
  by_cases hz0 : z = 0
  · subst hz0
    have hpa := rparse_any T (w2.alloc (.cells #[.string T, .slice Ag G.length cg, .slice Ar R.length cr] 39)) (by omega)
    have HPA := hide hpa; clear hpa
    go_wp2_with fail
    generalize (w2.alloc (.cells #[.string T, .slice Ag G.length cg, .slice Ar R.length cr] 39)) = w3 at *
    refine (unhide HPA).mono ?_
    rintro e w4 ⟨u, zz, rfl, hA, hb4⟩
    have hw4 : Below g0 w w4 := (unhide H3).1.trans (hb4.mono (by have := (unhide H3).1.size; omega))
    have hA4 := (unhide H3).2.1.below hb4 (unhide H3).2.1.lt
    have hC4 := (unhide H3).2.2.1.below hb4 (unhide H3).2.2.1.lt
    clear k0 k1 k2 k3 f0 f1 f2 f3 o0 H3 HPA hb4
    have H4 := hide (And.intro hw4 (And.intro hA4 hC4)); clear hw4 hA4 hC4
    rcases hA with ⟨q, hq, rfl, vq, rfl, hOq⟩ | ⟨hno, rfl, rfl⟩
    · obtain ⟨Q, cQ, rfl⟩ := hOq.slice
      clear hOq
      obtain ⟨qo, qn, qr, qes⟩ := q
      simp only
      have hC5 := (unhide H4).2.2.alloc (.cells #[.string qo, .int .i64 qn, .string qr, .slice Q qes.length cQ] 32)
      have hA5 := (unhide H4).2.1.alloc (.cells #[.string qo, .int .i64 qn, .string qr, .slice Q qes.length cQ] 32)
      have hw5 : Below g0 w (w4.alloc (.cells #[.string qo, .int .i64 qn, .string qr, .slice Q qes.length cQ] 32)) := (unhide H4).1.alloc (by have := (unhide H4).1.size; omega) _
      have k0 := hC5.cell 0; have k1 := hC5.cell 1; have k2 := hC5.cell 2; have k3 := hC5.cell 3
      have f0 := hC5.frozen 0; have f1 := hC5.frozen 1; have f2 := hC5.frozen 2; have f3 := hC5.frozen 3
      have a0 := hA5.cell 0
      simp only [List.getElem?_toArray, List.getElem?_cons_zero, List.getElem?_cons_succ] at k0 k1 k2 k3 a0
      have H5 := hide (And.intro hw5 hC5); clear hw5 hC5 hA5 H4
      by_cases hnm : qo = kn
      · subst hnm
        have e1 : (qo.toList == qo.toList) = true := beq_self_eq_true _
        go_wp2_with fail
        (try simp only [Exit.inBlock, Exit.then])
        refine bodyPost_ret (results_cp rfl _ _ (g0 + 1) _ _ _ _ rfl (blk4_store (unhide H5).2 _ _ _ _)) rfl ?_
        exact ⟨⟨qo, qn, qr, Q, _, cQ, 0, rfl, by decide, .inl ⟨rfl, ((unhide HPT) _ _).2 ⟨_, by trivial, hq, rfl, rfl, rfl⟩⟩⟩, by rw [hg0]; exact below4_store (unhide H5).1 (Nat.le_succ _) _ _ _ _⟩
      · have e1 : (qo.toList == kn.toList) = false := toList_ne hnm
        go_wp2_with fail
        (try simp only [Exit.inBlock, Exit.then])
        refine bodyPost_ret (results_cp rfl _ _ (g0 + 1) _ _ _ _ rfl (blk4_store (unhide H5).2 _ _ _ _)) rfl ?_
        refine ⟨⟨⟨#[]⟩, 0, ⟨#[]⟩, none, 0, 0, 220, rfl, by decide, .inr ⟨by decide, fun n r h => ?_⟩⟩, by rw [hg0]; exact below4_store (unhide H5).1 (Nat.le_succ _) _ _ _ _⟩
        obtain ⟨q2, -, hq2, h3, -⟩ := ((unhide HPT) n r).1 h
        obtain rfl := ParseR.one hq hq2
        exact hnm h3
    · unfold noPt
      have hC5 := (unhide H4).2.2.alloc (.cells #[.string ⟨#[]⟩, .int .i64 0, .string ⟨#[]⟩, .slice none 0 0] 32)
      have hA5 := (unhide H4).2.1.alloc (.cells #[.string ⟨#[]⟩, .int .i64 0, .string ⟨#[]⟩, .slice none 0 0] 32)
      have hw5 : Below g0 w (w4.alloc (.cells #[.string ⟨#[]⟩, .int .i64 0, .string ⟨#[]⟩, .slice none 0 0] 32)) := (unhide H4).1.alloc (by have := (unhide H4).1.size; omega) _
      have k0 := hC5.cell 0; have k1 := hC5.cell 1; have k2 := hC5.cell 2; have k3 := hC5.cell 3
      have f0 := hC5.frozen 0; have f1 := hC5.frozen 1; have f2 := hC5.frozen 2; have f3 := hC5.frozen 3
      have a0 := hA5.cell 0
      simp only [List.getElem?_toArray, List.getElem?_cons_zero, List.getElem?_cons_succ] at k0 k1 k2 k3 a0
      have H5 := hide (And.intro hw5 hC5); clear hw5 hC5 hA5 H4
      go_wp2_with fail
      (try simp only [Exit.inBlock, Exit.then])
      refine bodyPost_ret (results_cp rfl _ _ (g0 + 1) _ _ _ _ rfl (blk4_store (unhide H5).2 _ _ _ _)) rfl ?_
      refine ⟨⟨⟨#[]⟩, 0, ⟨#[]⟩, none, 0, 0, 204, rfl, by decide, .inr ⟨by decide, fun n r h => ?_⟩⟩, by rw [hg0]; exact below4_store (unhide H5).1 (Nat.le_succ _) _ _ _ _⟩
      obtain ⟨q, -, hq, -⟩ := ((unhide HPT) n r).1 h
      exact hno q hq
  · have hnz : ((z : Int) == 0) = false := by rw [beq_eq_false_iff_ne]; omega
    go_wp2_with fail
    generalize (w2.alloc (.cells #[.string T, .slice Ag G.length cg, .slice Ar R.length cr] 39)) = w3 at *
    (try simp only [Exit.inBlock, Exit.then])
    refine bodyPost_ret (results_cp rfl _ _ (g0 + 1) _ _ _ _ rfl (blk4_store (unhide H3).2.2.1 _ _ _ _)) rfl ?_
    refine ⟨⟨⟨#[]⟩, 0, ⟨#[]⟩, none, 0, 0, z, rfl, hxn.2, .inr ⟨hz0, fun n r h => ?_⟩⟩, by rw [hg0]; exact below4_store (unhide H3).1 (Nat.le_succ _) _ _ _ _⟩
    obtain ⟨q, h0, -⟩ := ((unhide HPT) n r).1 h
    exact hz0 h0
end Go.Proofs.YtnkkpfomoodmjaaGreatDoor

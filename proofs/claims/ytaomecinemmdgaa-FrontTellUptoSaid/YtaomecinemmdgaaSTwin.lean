/-
  CONTRACT of the law's twin: the same steps in memory of their own.
-/
import Derived.Test.YtaomecinemmdgaaRows
import Derived.Test.YtaomecinemmdgaaGBase
import Derived.Test.YtaomecinemmdgaaSRScript
import Derived.Test.YtaomecinemmdgaaSTwinI
set_option linter.unusedVariables false
set_option linter.unusedSimpArgs false
namespace Go.Proofs.Ytaomecinemmdgaa
open Go.RowKit Go.Lib
set_option maxRecDepth 100000 in
set_option maxHeartbeats 4000000 in
theorem twin_any (v : Value) (l : List StepR) (w : World) (hV : StepsAt w v l) (hz : ∀ s ∈ l, s.ns.length ≤ 1073741824 ∧ s.ss.length ≤ 1073741824) (hn : l.length ≤ 1073741824) :
    Calls Try.prog 9 #[v] w fun e' w' => ∃ v', e' = .returned v' ∧ StepsAt w' v' l ∧ Below w.heap.size w w' := by
  obtain ⟨A, cap, rfl, hel⟩ := hV
  have HEL := hide hel; have HZ := hide hz; clear hel hz
  go_enter Try.func9, Try.ntmps9
  go_wp2_with fail
  go_loopw [3, 4] (fun u i W => ∃ (j : Nat) (es : List TE), j ≤ l.length ∧ i = .int .i64 (j : Int) ∧ Hid (es.map TE.step = l.take j) ∧ TwS w W u es) (fun _ i _ => l.length - (RowKit.intOf i).toNat)
  case atStart => exact ⟨0, [], by omega, rfl, Lib.hid rfl, ⟨World.ownsRow_nil _ _ _ _, fun x hx => absurd hx (by simp), Below.refl _ _⟩⟩
  case round =>
    obtain ⟨j, es, hj, rfl, hes, hX⟩ := hrel
    have hel2 : Hid (es.length = j) := Lib.hid (by have := congrArg List.length hes.out; rw [List.length_map, List.length_take] at this; omega)
    rcases Nat.lt_or_ge j l.length with hlt | hge
    · have t1 : (j : Int) < (l.length : Int) := by omega
      have t0 : (0 : Int) ≤ (j : Int) := by omega
      obtain ⟨q, rfl, hst⟩ := unhide HEL j hlt
      have hso := unhide HZ _ (List.getElem_mem hlt)
      have hnx : Hid (l.take (j + 1) = l.take j ++ [l[j]]) := Lib.hid (List.take_succ_eq_append_getElem hlt)
      generalize l[j] = s at *
      obtain ⟨kd, o, ns, ss⟩ := s
      obtain ⟨vn, vs, a, b, c, d, e, f, ho, p0, p1, p2, p3, p4, p5, p6, p7, p8, hI, hS⟩ := hst
      simp only at ho p0 hI hS hso
      subst ho
      have hb := hX.b
      have hbl := World.block_lt_of_cell? w _ p0
      have c0 := (hb.cell hbl).trans p0
      have c1 := (hb.cell (p := ⟨(q.add (j * 9)).block, (q.add (j * 9)).off + 1, none⟩) hbl).trans p1
      have c2 := (hb.cell (p := ⟨(q.add (j * 9)).block, (q.add (j * 9)).off + 2, none⟩) hbl).trans p2
      have c3 := (hb.cell (p := ⟨(q.add (j * 9)).block, (q.add (j * 9)).off + 3, none⟩) hbl).trans p3
      have c4 := (hb.cell (p := ⟨(q.add (j * 9)).block, (q.add (j * 9)).off + 4, none⟩) hbl).trans p4
      have c5 := (hb.cell (p := ⟨(q.add (j * 9)).block, (q.add (j * 9)).off + 5, none⟩) hbl).trans p5
      have c6 := (hb.cell (p := ⟨(q.add (j * 9)).block, (q.add (j * 9)).off + 6, none⟩) hbl).trans p6
      have c7 := (hb.cell (p := ⟨(q.add (j * 9)).block, (q.add (j * 9)).off + 7, none⟩) hbl).trans p7
      have c8 := (hb.cell (p := ⟨(q.add (j * 9)).block, (q.add (j * 9)).off + 8, none⟩) hbl).trans p8
      obtain ⟨An, cn, rfl, -⟩ := id hI
      obtain ⟨As, cs, rfl, -⟩ := id hS
      have HP := hide (And.intro p1 (And.intro p2 (And.intro hI hS)))
      have HX := hide hX; clear hX hb p0 p1 p2 p3 p4 p5 p6 p7 p8 hI hS
      go_upto_region 6 with fail
      have HA := hide (And.intro ((unhide HX).box #[.int .i64 kd, .slice An ns.length cn, .slice As ss.length cs, .int .i64 a, .int .i64 b, .int .i64 c, .int .i64 d, .int .i64 e, .int .i64 f]) True.intro)
      clear HX c0 c1 c2 c3 c4 c5 c6 c7 c8
      generalize (wr.alloc (.cells #[.int .i64 kd, .slice An ns.length cn, .slice As ss.length cs, .int .i64 a, .int .i64 b, .int .i64 c, .int .i64 d, .int .i64 e, .int .i64 f] 52)) = wa at *
      generalize wr.heap.size = gx at *
      have d1 := ((unhide HA).1.b.cell (p := ⟨(q.add (j * 9)).block, (q.add (j * 9)).off + 1, none⟩) hbl).trans (unhide HP).1
      have d2 := (World.cell?_alloc_lt wa (.cells #[] 3) ⟨(q.add (j * 9)).block, (q.add (j * 9)).off + 1, none⟩ (by have := (unhide HA).1.b.size; show (q.add (j * 9)).block < _; omega)).trans d1
      clear d1
      have hI2 := ((unhide HP).2.2.1.below (unhide HA).1.b).below ((Below.refl wa.heap.size wa).alloc (Nat.le_refl _) (.cells #[] 3))
      have hO2 : OwnI (wa.alloc (.cells #[] 3)) (gx + 1) (.slice (some ⟨wa.heap.size, 0, none⟩) 0 0) [] := World.ownsRow_made wa #[] 0 (by have := (unhide HA).1.s.lt; omega) (by simp [maxLen]) rfl
      have hB2 : Below (gx + 1) wa (wa.alloc (.cells #[] 3)) := (Below.refl _ _).alloc (by have := (unhide HA).1.s.lt; omega) _
      have hlt2 := (unhide HA).1.s.lt
      have H2 := hide (And.intro hI2 (And.intro hO2 (And.intro hB2 hlt2))); clear hI2 hO2 hB2 hlt2
      go_upto_region 7 with (first | (at_builtin; refine wpList_appI (wa.alloc (.cells #[] 3)) rfl _ _ rfl (unhide H2).2.1 rfl (unhide H2).1 rfl (by simp; omega) (by have := (unhide H2).2.2.2; simp; omega) ?_; intro v3 w3 hO3 hg3 hat3; rw [List.nil_append] at hO3; have hB3 : Below (gx + 1) wa w3 := (unhide H2).2.2.1.grown hg3 (by have := (unhide H2).2.2.2; simp; omega) (fun k hk => (World.ownsRow.lt (unhide H2).2.1 k hk).1); have hX3 := (unhide HA).1.above hB3; have k1 := hX3.s.cell 1; have kf1 := hX3.s.frozen 1; simp only [List.getElem?_toArray, List.getElem?_cons_zero, List.getElem?_cons_succ] at k1; obtain ⟨A3, k3, rfl, -⟩ := id hO3.ints; have HA3 := hide (And.intro hX3 (And.intro hO3 (And.intro hg3 hat3))); clear hO3 hg3 hat3 hB3 hX3))
      have hX4 : TwX w (w3.setCell ⟨gx, 1, none⟩ (.slice A3 ns.length k3)) gx #[.int .i64 kd, .slice A3 ns.length k3, .slice As ss.length cs, .int .i64 a, .int .i64 b, .int .i64 c, .int .i64 d, .int .i64 e, .int .i64 f] _ es := (unhide HA3).1.set 1 (.slice A3 ns.length k3)
      have hO4 : OwnI (w3.setCell ⟨gx, 1, none⟩ (.slice A3 ns.length k3)) (gx + 1) (.slice A3 ns.length k3) ns := row_far (unhide HA3).2.1 (Nat.lt_succ_self _)
      have HA4 := hide (And.intro hX4 hO4)
      clear hX4 hO4 HA3 H2 HA d2 k1 kf1
      generalize w3.setCell ⟨gx, 1, none⟩ (.slice A3 ns.length k3) = wb at *
      have d1 := ((unhide HA4).1.b.cell (p := ⟨(q.add (j * 9)).block, (q.add (j * 9)).off + 2, none⟩) hbl).trans (unhide HP).2.1
      have d2 := (World.cell?_alloc_lt wb (.cells #[] 9) ⟨(q.add (j * 9)).block, (q.add (j * 9)).off + 2, none⟩ (by have := (unhide HA4).1.b.size; show (q.add (j * 9)).block < _; omega)).trans d1
      clear d1
      have hI2 := ((unhide HP).2.2.2.below (unhide HA4).1.b).below ((Below.refl wb.heap.size wb).alloc (Nat.le_refl _) (.cells #[] 9))
      have hO2 : OwnT (wb.alloc (.cells #[] 9)) (gx + 1) (.slice (some ⟨wb.heap.size, 0, none⟩) 0 0) [] := World.ownsRow_made wb #[] 0 (by have := (unhide HA4).1.s.lt; omega) (by simp [maxLen]) rfl
      have hB2 : Below (gx + 1) wb (wb.alloc (.cells #[] 9)) := (Below.refl _ _).alloc (by have := (unhide HA4).1.s.lt; omega) _
      have hlt2 := (unhide HA4).1.s.lt
      have H2 := hide (And.intro hI2 (And.intro hO2 (And.intro hB2 hlt2))); clear hI2 hO2 hB2 hlt2
      go_upto_region 8 with (first | (at_builtin; (refine wpList_appT (wb.alloc (.cells #[] 9)) rfl _ _ rfl (unhide H2).2.1 rfl (unhide H2).1 rfl (by simp; omega) (by have := (unhide H2).2.2.2; simp; omega) ?_; intro v6 w6 hO3 hg3 hat3; rw [List.nil_append] at hO3; have hB3 : Below (gx + 1) wb w6 := (unhide H2).2.2.1.grown hg3 (by have := (unhide H2).2.2.2; simp; omega) (fun k hk => (World.ownsRow.lt (unhide H2).2.1 k hk).1); have hX3 := (unhide HA4).1.above hB3; have k1 := hX3.s.cell 2; have kf1 := hX3.s.frozen 2; simp only [List.getElem?_toArray, List.getElem?_cons_zero, List.getElem?_cons_succ] at k1; obtain ⟨A6, k6, rfl, -⟩ := id (own_strs hO3); have HA6 := hide (And.intro hX3 (And.intro hO3 (And.intro hg3 hat3))); clear hO3 hg3 hat3 hB3 hX3)))
      have hX7 : TwX w (w6.setCell ⟨gx, 2, none⟩ (.slice A6 ss.length k6)) gx #[.int .i64 kd, .slice A3 ns.length k3, .slice A6 ss.length k6, .int .i64 a, .int .i64 b, .int .i64 c, .int .i64 d, .int .i64 e, .int .i64 f] _ es := (unhide HA6).1.set 2 (.slice A6 ss.length k6)
      have hO7 : OwnT (w6.setCell ⟨gx, 2, none⟩ (.slice A6 ss.length k6)) (gx + 1) (.slice A6 ss.length k6) ss := row_far (unhide HA6).2.1 (Nat.lt_succ_self _)
      have hN6 : OwnI w6 (gx + 1) (.slice A3 ns.length k3) ns := World.ownsRow.kept (World.ownsRow.alloc (unhide HA4).2 _) (unhide HA6).2.2.1 (own_fresh (unhide HA4).2)
      have hN7 : OwnI (w6.setCell ⟨gx, 2, none⟩ (.slice A6 ss.length k6)) (gx + 1) (.slice A3 ns.length k3) ns := row_far hN6 (Nat.lt_succ_self _)
      have HA7 := hide (And.intro hX7 (And.intro hN7 hO7))
      clear hX7 hO7 hN6 hN7 HA6 H2 HA4 d2 k1 kf1
      generalize w6.setCell ⟨gx, 2, none⟩ (.slice A6 ss.length k6) = wx at *
      have m0 := (unhide HA7).1.s.cell 0; have m1 := (unhide HA7).1.s.cell 1; have m2 := (unhide HA7).1.s.cell 2; have m3 := (unhide HA7).1.s.cell 3; have m4 := (unhide HA7).1.s.cell 4; have m5 := (unhide HA7).1.s.cell 5; have m6 := (unhide HA7).1.s.cell 6; have m7 := (unhide HA7).1.s.cell 7; have m8 := (unhide HA7).1.s.cell 8
      simp only [List.getElem?_toArray, List.getElem?_cons_zero, List.getElem?_cons_succ] at m0 m1 m2 m3 m4 m5 m6 m7 m8
      go_wp2_with (first | (at_builtin; (refine wpList_appS1 wx rfl _ _ rfl (unhide HA7).1.row rfl (y := ⟨kd, .slice A3 ns.length k3, .slice A6 ss.length k6, a, b, c, d, e, f, ns, ss⟩) rfl ⟨rfl, rfl⟩ (by have := hel2.out; omega) (unhide HA7).1.b.size ?_; intro v9 w9 hO9 hg9 hat9; have H9 := hide (TwX.app (y := ⟨kd, .slice A3 ns.length k3, .slice A6 ss.length k6, a, b, c, d, e, f, ns, ss⟩) (unhide HA7).1 (row_mono (unhide HA7).2.1 (by have := (unhide HA7).1.n; omega)) (row_mono (unhide HA7).2.2 (by have := (unhide HA7).1.n; omega)) hO9 hg9); clear hO9 hg9 hat9)))
      exact ⟨⟨j + 1, es ++ [⟨kd, .slice A3 ns.length k3, .slice A6 ss.length k6, a, b, c, d, e, f, ns, ss⟩], by omega, by go_num, Lib.hid (by rw [List.map_append, hes.out, hnx.out]; rfl), unhide H9⟩, by simp [RowKit.intOf]; omega⟩
    · have t1 : ¬ (j : Int) < (l.length : Int) := by omega
      have hst : Hid (es.map TE.step = l) := Lib.hid (by rw [hes.out, List.take_of_length_le hge])
      have H9 := hide hX; clear hX hes
      go_wp2_with fail
      obtain ⟨Au, cu, rfl⟩ : ∃ A c, u3 = .slice A l.length c := by
        have h := (unhide H9).steps; rw [hst.out] at h; obtain ⟨A', c', h1, -⟩ := h; exact ⟨_, _, h1⟩
      go_ret
      exact ⟨_, rfl, by have h := (unhide H9).steps; rw [hst.out] at h; exact h, (unhide H9).b⟩
end Go.Proofs.Ytaomecinemmdgaa

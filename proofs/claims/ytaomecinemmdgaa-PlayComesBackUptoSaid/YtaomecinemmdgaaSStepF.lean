/-
  CONTRACT of the closure of play.step; opts.
-/
import Derived.Test.YtaomecinemmdgaaRows
import Derived.StillTailTactics
import Derived.Test.YtaomecinemmdgaaGBase
import Derived.Test.YtaomecinemmdgaaGLns
import Derived.Test.YtaomecinemmdgaaSTwinI
import Derived.Test.YtaomecinemmdgaaSStepP
import Derived.Test.YtaomecinemmdgaaSRStepA
import Derived.Test.YtaomecinemmdgaaSEachW
set_option linter.unusedVariables false
set_option linter.unusedSimpArgs false
namespace Go.Proofs.Ytaomecinemmdgaa
open Go.RowKit Go.Lib
theorem numN_opts {F : ShapeR} {h : Nat} (ho : F.opts = true) (hm : F.more = 0) : numN F h = 6 := by unfold numN; rw [if_neg (by omega), if_pos ho]
theorem getD_app_lt {l r : List UInt8} {i : Nat} (h : i < l.length) : (l ++ r).getD i 0 = l.getD i 0 := by
  rw [List.getD_eq_getElem?_getD, List.getD_eq_getElem?_getD, List.getElem?_append_left h]
theorem getD_app_ge {l r : List UInt8} {i : Nat} (h : l.length ≤ i) : (l ++ r).getD i 0 = r.getD (i - l.length) 0 := by
  rw [List.getD_eq_getElem?_getD, List.getD_eq_getElem?_getD, List.getElem?_append_right h]
theorem getD_rep {n i : Nat} {c : UInt8} (h : i < n) : (List.replicate n c).getD i 0 = c := by
  rw [List.getD_eq_getElem?_getD, List.getElem?_replicate, if_pos h]; rfl
/-- What the i-th word is. -/
theorem what_is (k : Nat) (hk : k < 35) (h i : Nat) (hf : fits (shapeAt k) h = true) (hi : i < h) :
    ((shapeAt k).opts = true ∧ whatW (shapeAt k) i = 111 ∧ i < numN (shapeAt k) h) ∨ ((shapeAt k).opts = false ∧ (whatW (shapeAt k) i = 110 ∨ whatW (shapeAt k) i = 78) ∧ i < numN (shapeAt k) h) ∨ ((shapeAt k).opts = false ∧ (whatW (shapeAt k) i = 115 ∨ whatW (shapeAt k) i = 83) ∧ numN (shapeAt k) h ≤ i) := by
  have ht := shape_tab ⟨k, hk⟩
  simp only at ht
  generalize shapeAt k = F at *
  obtain ⟨h1, h2, h3, h4, -⟩ := ht
  unfold fits at hf
  simp only [Bool.and_eq_true, Bool.or_eq_true, decide_eq_true_eq] at hf
  cases ho : F.opts with
  | true =>
    obtain ⟨ha, hb, hm⟩ := h1 ho
    rw [ho] at hf
    simp only [if_true, hb, hm] at hf
    refine .inl ⟨rfl, ?_, by rw [numN_opts ho hm]; omega⟩
    unfold whatW signsW wantsL
    rw [if_pos ho, if_pos rfl]
    match i, (by omega : i < 6) with
    | 0, _ => rfl
    | 1, _ => rfl
    | 2, _ => rfl
    | 3, _ => rfl
    | 4, _ => rfl
    | 5, _ => rfl
  | false =>
    rw [ho] at hf
    simp only [Bool.false_eq_true, if_false] at hf
    have hsg : signsW F = List.replicate F.a 110 ++ List.replicate F.b 115 ++ (if F.more = 1 then [78] else if F.more = 2 then [83] else []) := by
      unfold signsW
      rw [if_neg]
      · unfold wantsL; rw [ho, if_neg (by simp)]
      · intro e
        have hm : (111 : UInt8) ∈ wantsL F := by rw [e]; simp
        unfold wantsL at hm
        rw [ho, if_neg (by simp)] at hm
        rcases List.mem_append.1 hm with hm | hm
        · rcases List.mem_append.1 hm with hm | hm
          · exact absurd (List.eq_of_mem_replicate hm) (by decide)
          · exact absurd (List.eq_of_mem_replicate hm) (by decide)
        · split at hm
          · simp at hm
          · split at hm <;> simp at hm
    have hl : (signsW F).length = F.a + F.b + (if F.more = 1 then 1 else if F.more = 2 then 1 else 0) := by
      rw [hsg, List.length_append, List.length_append, List.length_replicate, List.length_replicate]
      split
      · rfl
      · split <;> rfl
    unfold whatW
    rw [hl]
    unfold numN
    simp only [ho, Bool.false_eq_true, if_false]
    by_cases hm1 : F.more = 1
    · have hb := h2 hm1
      simp only [hm1, if_true] at hl ⊢
      rw [hsg]
      simp only [hm1, if_true, hb, List.replicate_zero, List.append_nil]
      rcases Nat.lt_or_ge i F.a with h' | h'
      · refine .inr (.inl ⟨trivial, .inl ?_, by omega⟩)
        rw [show min i (F.a + 0 + 1 - 1) = i by omega, getD_app_lt (by rw [List.length_replicate]; exact h'), getD_rep h']
      · refine .inr (.inl ⟨trivial, .inr ?_, by omega⟩)
        rw [show min i (F.a + 0 + 1 - 1) = F.a by omega, getD_app_ge (by rw [List.length_replicate]; exact Nat.le_refl _), List.length_replicate, Nat.sub_self]; rfl
    · by_cases hm2 : F.more = 2
      · obtain ⟨ha, hb⟩ := h3 hm2
        rw [hsg]
        simp only [hm1, hm2, if_true, ha, hb, List.replicate_zero, List.append_nil, List.nil_append, Nat.zero_add, Nat.sub_self, Nat.min_zero, if_false, reduceIte, Nat.reduceEqDiff]
        exact .inr (.inr ⟨trivial, .inr rfl, by omega⟩)
      · have hm0 : F.more = 0 := by omega
        rw [hsg]
        simp only [hm0, List.append_nil, reduceIte, Nat.reduceEqDiff, Nat.add_zero] at hf ⊢
        have hh : h = F.a + F.b := by omega
        rcases Nat.lt_or_ge i F.a with h' | h'
        · refine .inr (.inl ⟨trivial, .inl ?_, h'⟩)
          rw [show min i (F.a + F.b - 1) = i by omega, getD_app_lt (by rw [List.length_replicate]; exact h'), getD_rep h']
        · refine .inr (.inr ⟨trivial, .inl ?_, h'⟩)
          rw [show min i (F.a + F.b - 1) = i by omega, getD_app_ge (by rw [List.length_replicate]; exact h'), List.length_replicate, getD_rep (by omega)]
theorem own6 {w : World} {base m cp : Nat} {A : Option Addr} {a b c d e f : Int} (h : OwnI w base (.slice A m cp) [a, b, c, d, e, f]) : ∃ g, A = some ⟨g, 0, none⟩ ∧ w.cell? ⟨g, 0, none⟩ = some (.int .i64 a) ∧ w.cell? ⟨g, 1, none⟩ = some (.int .i64 b) ∧ w.cell? ⟨g, 2, none⟩ = some (.int .i64 c) ∧ w.cell? ⟨g, 3, none⟩ = some (.int .i64 d) ∧ w.cell? ⟨g, 4, none⟩ = some (.int .i64 e) ∧ w.cell? ⟨g, 5, none⟩ = some (.int .i64 f) := by
  rcases id h.2 with ⟨hv, hn⟩ | ⟨g, cap, cur, hv, -, -, -⟩
  · simp at hn
  · injection hv with e1 e2 e3
    subst e1 e2 e3
    have hc := fun j hj => World.ownsRow.cellAt h j hj
    exact ⟨g, rfl, hc 0 (by simp), hc 1 (by simp), hc 2 (by simp), hc 3 (by simp), hc 4 (by simp), hc 5 (by simp)⟩
theorem results_opts {fn : Func} {p : Tmp} (h : fn.results = #[.cell p 50]) (tmps : Array Value) (w : World) (g : Nat) (cs : Array Value) (hz : cs.size = 6) (hp : tmps.getD p undef = .pointer (some ⟨g, 0, none⟩)) (hB : Blk w g 50 cs) :
    (results fn tmps).run Try.prog w = .ok (.agg cs) w := by
  have h2 := run_loadVar_row (P := Try.prog) w g 50 50 cs (0, 0) _ hB Try.underlying50 rfl (by rw [hz]; kernel_rfl)
  rw [Array.getD_eq_getD_getElem?] at hp
  simp [results, h, hp, asAddr, h2, Result.andThen]
theorem blk6_store {w : World} {g : Nat} {b0 b1 b2 b3 b4 b5 : Value} (hB : Blk w g 50 #[b0, b1, b2, b3, b4, b5]) (a0 a1 a2 a3 a4 a5 : Value) :
    Blk ((((((w.setCell ⟨g, 0, none⟩ a0).setCell ⟨g, 1, none⟩ a1).setCell ⟨g, 2, none⟩ a2).setCell ⟨g, 3, none⟩ a3).setCell ⟨g, 4, none⟩ a4).setCell ⟨g, 5, none⟩ a5) g 50 #[a0, a1, a2, a3, a4, a5] := by
  have h := (((((hB.set_ 0 a0).set_ 1 a1).set_ 2 a2).set_ 3 a3).set_ 4 a4).set_ 5 a5
  simpa using h
set_option maxRecDepth 100000 in
set_option maxHeartbeats 1000000 in
theorem opts_any (v : Value) (base : Nat) (a b c d e f : Int) (w : World) (hO : OwnI w base v [a, b, c, d, e, f]) :
    Calls Try.prog 72 #[v] w fun e' w' => e' = .returned (.agg #[.int .i64 a, .int .i64 b, .int .i64 c, .int .i64 d, .int .i64 e, .int .i64 f]) ∧ Below w.heap.size w w' := by
  obtain ⟨A, cc, rfl, -⟩ := id hO.ints
  obtain ⟨g, rfl, e0, e1, e2, e3, e4, e5⟩ := own6 hO
  have hne := World.new_ne w _ e0
  have b0 := World.block_lt_of_cell? w _ e0
  simp only [List.length_cons, List.length_nil, Nat.zero_add, Nat.reduceAdd]
  have hbA : Below w.heap.size w (w.alloc (.cells #[.int .i64 0, .int .i64 0, .int .i64 0, .int .i64 0, .int .i64 0, .int .i64 0] 50)) := (Below.refl _ _).alloc (Nat.le_refl _) _
  have hZ := Blk.new w 50 #[.int .i64 0, .int .i64 0, .int .i64 0, .int .i64 0, .int .i64 0, .int .i64 0]
  have c0 := (hbA.cell (p := ⟨g, 0, none⟩) b0).trans e0; have c1 := (hbA.cell (p := ⟨g, 1, none⟩) b0).trans e1; have c2 := (hbA.cell (p := ⟨g, 2, none⟩) b0).trans e2; have c3 := (hbA.cell (p := ⟨g, 3, none⟩) b0).trans e3; have c4 := (hbA.cell (p := ⟨g, 4, none⟩) b0).trans e4; have c5 := (hbA.cell (p := ⟨g, 5, none⟩) b0).trans e5
  have HZ := hide (And.intro hZ hbA); clear hZ hbA hO e0 e1 e2 e3 e4 e5 hne b0
  go_enter Try.func72, Try.ntmps72
  go_wp2_with fail
  generalize (w.alloc (.cells #[.int .i64 0, .int .i64 0, .int .i64 0, .int .i64 0, .int .i64 0, .int .i64 0] 50)) = wa at *
  go_still_tail 19, (by kernel_rfl)
  repeat still_step
  try refine wpStill_nil ?_
  change wpList _ _ _ _ _ wa.drew
  have HD := hide (And.intro (unhide HZ).1.drew (unhide HZ).2.drew)
  clear c0 c1 c2 c3 c4 c5 HZ
  generalize wa.drew = wd at *
  have k0 := (unhide HD).1.cell 0; have k1 := (unhide HD).1.cell 1; have k2 := (unhide HD).1.cell 2; have k3 := (unhide HD).1.cell 3; have k4 := (unhide HD).1.cell 4; have k5 := (unhide HD).1.cell 5
  have f0 := (unhide HD).1.frozen 0; have f1 := (unhide HD).1.frozen 1; have f2 := (unhide HD).1.frozen 2; have f3 := (unhide HD).1.frozen 3; have f4 := (unhide HD).1.frozen 4; have f5 := (unhide HD).1.frozen 5
  simp only [List.getElem?_toArray, List.getElem?_cons_zero, List.getElem?_cons_succ] at k0 k1 k2 k3 k4 k5
  go_wp2_with fail
  refine bodyPost_ret (results_opts rfl _ _ w.heap.size _ rfl rfl (blk6_store (unhide HD).1 _ _ _ _ _ _)) rfl ?_
  exact ⟨rfl, ((((((unhide HD).2.setCell (p := ⟨w.heap.size, 0, none⟩) (Nat.le_refl _) _).setCell (p := ⟨w.heap.size, 1, none⟩) (Nat.le_refl _) _).setCell (p := ⟨w.heap.size, 2, none⟩) (Nat.le_refl _) _).setCell (p := ⟨w.heap.size, 3, none⟩) (Nat.le_refl _) _).setCell (p := ⟨w.heap.size, 4, none⟩) (Nat.le_refl _) _).setCell (p := ⟨w.heap.size, 5, none⟩) (Nat.le_refl _) _⟩
end Go.Proofs.Ytaomecinemmdgaa

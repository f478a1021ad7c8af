/-
  CONTRACT of the law's clean.
-/
import Derived.Test.YtaomecinemmdgaaRows
import Derived.Test.YtaomecinemmdgaaGBase
import Derived.Test.YtaomecinemmdgaaGLns
import Derived.Test.YtaomecinemmdgaaSTwinI
import Derived.Test.YtaomecinemmdgaaSFew
set_option linter.unusedVariables false
set_option linter.unusedSimpArgs false
namespace Go.Proofs.Ytaomecinemmdgaa
open Go.RowKit Go.Lib
abbrev argV (k : Int) (vn vs : Value) (a b c d e f : Int) : Array Value := #[.int .i64 k, vn, vs, .int .i64 a, .int .i64 b, .int .i64 c, .int .i64 d, .int .i64 e, .int .i64 f]
abbrev nilV : Value := .slice none 0 0
/-- What stands in clean's walk: the argument's box, the result's, the new step's. -/
structure ClX (w W : World) (ar cs : Array Value) : Prop where
  b : Below w.heap.size w W
  x : Blk W w.heap.size 52 ar
  r : Blk W (w.heap.size + 1) 52 (argV 0 nilV nilV 0 0 0 0 0 0)
  s : Blk W (w.heap.size + 1 + 1) 52 cs
theorem ClX.above {w W W' : World} {ar cs : Array Value} (h : ClX w W ar cs) (hb : Below W.heap.size W W') : ClX w W' ar cs :=
  ⟨h.b.trans (hb.mono h.b.size), h.x.below hb h.x.lt, h.r.below hb h.r.lt, h.s.below hb h.s.lt⟩
theorem ClX.set {w W : World} {ar cs : Array Value} (h : ClX w W ar cs) (i : Nat) (u : Value) : ClX w (W.setCell ⟨w.heap.size + 1 + 1, i, none⟩ u) ar (cs.setIfInBounds i u) :=
  ⟨h.b.setCell (p := ⟨w.heap.size + 1 + 1, i, none⟩) (by show w.heap.size ≤ w.heap.size + 1 + 1; omega) u, h.x.far (by show w.heap.size ≠ w.heap.size + 1 + 1; omega) u, h.r.far (by show w.heap.size + 1 ≠ w.heap.size + 1 + 1; omega) u, h.s.set_ i u⟩
theorem ClX.new (w : World) (ar : Array Value) (cs : Array Value) : ClX w (((w.alloc (.cells ar 52)).alloc (.cells (argV 0 nilV nilV 0 0 0 0 0 0) 52)).alloc (.cells cs 52)) ar cs := by
  have h1 : (w.alloc (.cells ar 52)).heap.size = w.heap.size + 1 := by simp
  have h2 : ((w.alloc (.cells ar 52)).alloc (.cells (argV 0 nilV nilV 0 0 0 0 0 0) 52)).heap.size = w.heap.size + 1 + 1 := by simp
  have b1 := Blk.new w 52 ar
  have b2 := Blk.new (w.alloc (.cells ar 52)) 52 (argV 0 nilV nilV 0 0 0 0 0 0)
  have b3 := Blk.new ((w.alloc (.cells ar 52)).alloc (.cells (argV 0 nilV nilV 0 0 0 0 0 0) 52)) 52 cs
  rw [h1] at b2
  rw [h2] at b3
  exact ⟨(((Below.refl _ _).alloc (Nat.le_refl _) _).alloc (by omega) _).alloc (by omega) _, (b1.alloc _).alloc _, b2.alloc _, b3⟩
/-- What clean answers: its number row. -/
def NRow (w w' : World) (vn : Value) (ns : List Int) (y : Value) (l : List Int) : Prop := (y = vn ∧ l = ns) ∨ OwnI w' w.heap.size y l
def SRow (w w' : World) (vs : Value) (ss : List ByteArray) (y : Value) (l : List ByteArray) : Prop := (y = vs ∧ l = ss) ∨ OwnT w' w.heap.size y l
theorem blk9_put {w : World} {q : Nat} {t : TypeId} {a b c d e f g h i : Value} (hB : Blk w q t #[a, b, c, d, e, f, g, h, i]) (a' b' c' d' e' f' g' h' i' : Value) : Blk (((((((((w.setCell ⟨q, 0, none⟩ a').setCell ⟨q, 1, none⟩ b').setCell ⟨q, 2, none⟩ c').setCell ⟨q, 3, none⟩ d').setCell ⟨q, 4, none⟩ e').setCell ⟨q, 5, none⟩ f').setCell ⟨q, 6, none⟩ g').setCell ⟨q, 7, none⟩ h').setCell ⟨q, 8, none⟩ i') q t #[a', b', c', d', e', f', g', h', i'] := by
  have h2 := (((((((((hB.set_ 0 a').set_ 1 b').set_ 2 c').set_ 3 d').set_ 4 e').set_ 5 f').set_ 6 g').set_ 7 h').set_ 8 i')
  simpa using h2
theorem below9_put {B : Nat} {u w : World} {q : Nat} (hB : Below B u w) (hq : B ≤ q) (a' b' c' d' e' f' g' h' i' : Value) : Below B u (((((((((w.setCell ⟨q, 0, none⟩ a').setCell ⟨q, 1, none⟩ b').setCell ⟨q, 2, none⟩ c').setCell ⟨q, 3, none⟩ d').setCell ⟨q, 4, none⟩ e').setCell ⟨q, 5, none⟩ f').setCell ⟨q, 6, none⟩ g').setCell ⟨q, 7, none⟩ h').setCell ⟨q, 8, none⟩ i') := ((((((((hB.setCell (p := ⟨q, 0, none⟩) hq a').setCell (p := ⟨q, 1, none⟩) hq b').setCell (p := ⟨q, 2, none⟩) hq c').setCell (p := ⟨q, 3, none⟩) hq d').setCell (p := ⟨q, 4, none⟩) hq e').setCell (p := ⟨q, 5, none⟩) hq f').setCell (p := ⟨q, 6, none⟩) hq g').setCell (p := ⟨q, 7, none⟩) hq h').setCell (p := ⟨q, 8, none⟩) hq i'
theorem ow_i9 {w wb : World} {v : Value} {l : List Int} (h : OwnI wb (w.heap.size + 1 + 1 + 1) v l) (a' b' c' d' e' f' g' h' i' : Value) : OwnI (((((((((wb.setCell ⟨w.heap.size + 1, 0, none⟩ a').setCell ⟨w.heap.size + 1, 1, none⟩ b').setCell ⟨w.heap.size + 1, 2, none⟩ c').setCell ⟨w.heap.size + 1, 3, none⟩ d').setCell ⟨w.heap.size + 1, 4, none⟩ e').setCell ⟨w.heap.size + 1, 5, none⟩ f').setCell ⟨w.heap.size + 1, 6, none⟩ g').setCell ⟨w.heap.size + 1, 7, none⟩ h').setCell ⟨w.heap.size + 1, 8, none⟩ i') w.heap.size v l := row_mono (row_far (row_far (row_far (row_far (row_far (row_far (row_far (row_far (row_far (h) (p := ⟨w.heap.size + 1, 0, none⟩) (show w.heap.size + 1 < w.heap.size + 1 + 1 + 1 by omega)) (p := ⟨w.heap.size + 1, 1, none⟩) (show w.heap.size + 1 < w.heap.size + 1 + 1 + 1 by omega)) (p := ⟨w.heap.size + 1, 2, none⟩) (show w.heap.size + 1 < w.heap.size + 1 + 1 + 1 by omega)) (p := ⟨w.heap.size + 1, 3, none⟩) (show w.heap.size + 1 < w.heap.size + 1 + 1 + 1 by omega)) (p := ⟨w.heap.size + 1, 4, none⟩) (show w.heap.size + 1 < w.heap.size + 1 + 1 + 1 by omega)) (p := ⟨w.heap.size + 1, 5, none⟩) (show w.heap.size + 1 < w.heap.size + 1 + 1 + 1 by omega)) (p := ⟨w.heap.size + 1, 6, none⟩) (show w.heap.size + 1 < w.heap.size + 1 + 1 + 1 by omega)) (p := ⟨w.heap.size + 1, 7, none⟩) (show w.heap.size + 1 < w.heap.size + 1 + 1 + 1 by omega)) (p := ⟨w.heap.size + 1, 8, none⟩) (show w.heap.size + 1 < w.heap.size + 1 + 1 + 1 by omega)) (by omega)
theorem ow_t9 {w wb : World} {v : Value} {l : List ByteArray} (h : OwnT wb (w.heap.size + 1 + 1 + 1) v l) (a' b' c' d' e' f' g' h' i' : Value) : OwnT (((((((((wb.setCell ⟨w.heap.size + 1, 0, none⟩ a').setCell ⟨w.heap.size + 1, 1, none⟩ b').setCell ⟨w.heap.size + 1, 2, none⟩ c').setCell ⟨w.heap.size + 1, 3, none⟩ d').setCell ⟨w.heap.size + 1, 4, none⟩ e').setCell ⟨w.heap.size + 1, 5, none⟩ f').setCell ⟨w.heap.size + 1, 6, none⟩ g').setCell ⟨w.heap.size + 1, 7, none⟩ h').setCell ⟨w.heap.size + 1, 8, none⟩ i') w.heap.size v l := row_mono (row_far (row_far (row_far (row_far (row_far (row_far (row_far (row_far (row_far (h) (p := ⟨w.heap.size + 1, 0, none⟩) (show w.heap.size + 1 < w.heap.size + 1 + 1 + 1 by omega)) (p := ⟨w.heap.size + 1, 1, none⟩) (show w.heap.size + 1 < w.heap.size + 1 + 1 + 1 by omega)) (p := ⟨w.heap.size + 1, 2, none⟩) (show w.heap.size + 1 < w.heap.size + 1 + 1 + 1 by omega)) (p := ⟨w.heap.size + 1, 3, none⟩) (show w.heap.size + 1 < w.heap.size + 1 + 1 + 1 by omega)) (p := ⟨w.heap.size + 1, 4, none⟩) (show w.heap.size + 1 < w.heap.size + 1 + 1 + 1 by omega)) (p := ⟨w.heap.size + 1, 5, none⟩) (show w.heap.size + 1 < w.heap.size + 1 + 1 + 1 by omega)) (p := ⟨w.heap.size + 1, 6, none⟩) (show w.heap.size + 1 < w.heap.size + 1 + 1 + 1 by omega)) (p := ⟨w.heap.size + 1, 7, none⟩) (show w.heap.size + 1 < w.heap.size + 1 + 1 + 1 by omega)) (p := ⟨w.heap.size + 1, 8, none⟩) (show w.heap.size + 1 < w.heap.size + 1 + 1 + 1 by omega)) (by omega)
theorem cl_mid (w : World) (x z : Obj) (cs : Array Value) : Blk (((w.alloc x).alloc (.cells cs 52)).alloc z) (w.heap.size + 1) 52 cs := by
  have h1 : (w.alloc x).heap.size = w.heap.size + 1 := by simp
  have b2 := Blk.new (w.alloc x) 52 cs
  rw [h1] at b2
  exact b2.alloc _
theorem ow_i2 {w w' : World} {v : Value} {l : List Int} (h : OwnI w' (w.heap.size + 1 + 1 + 1) v l) : OwnI w' w.heap.size v l := row_mono h (by omega)
theorem ow_t2 {w w' : World} {v : Value} {l : List ByteArray} (h : OwnT w' (w.heap.size + 1 + 1 + 1) v l) : OwnT w' w.heap.size v l := row_mono h (by omega)
theorem cl_below3 (w : World) (x y z : Obj) : Below w.heap.size w (((w.alloc x).alloc y).alloc z) := (((Below.refl _ _).alloc (Nat.le_refl _) _).alloc (by simp) _).alloc (by simp; omega) _
set_option maxRecDepth 100000 in
set_option maxHeartbeats 2000000 in
theorem clean_1 (vn vs : Value) (a b c d e f : Int) (ns : List Int) (ss : List ByteArray) (w : World) (hN : IntsAt w vn ns) (hS : StrsAt w vs ss) :
    Calls Try.prog 25 #[.agg #[.int .i64 (1 : Int), vn, vs, .int .i64 a, .int .i64 b, .int .i64 c, .int .i64 d, .int .i64 e, .int .i64 f]] w fun e' w' => ∃ vn' vs', e' = .returned (.agg (argV 1 vn' vs' a b c d e f)) ∧ NRow w w' vn ns vn' [] ∧ SRow w w' vs ss vs' [] ∧ Below w.heap.size w w' := by
  obtain ⟨An, cn, rfl, -⟩ := id hN
  obtain ⟨As, cs, rfl, -⟩ := id hS
  have HN := hide (And.intro hN hS); clear hN hS
  go_enter Try.func25, Try.ntmps25
  go_wp2_with fail
  (try simp only [Exit.inBlock, Exit.then])
  refine bodyPost_ret (results_cell_row rfl _ _ (w.heap.size + 1) _ _ (0, 0) _ rfl (cl_mid w _ _ _) Try.underlying52 rfl (by kernel_rfl)) rfl ?_
  exact ⟨_, _, rfl, .inr (World.ownsRow_nil _ _ _ _), .inr (World.ownsRow_nil _ _ _ _), cl_below3 w _ _ _⟩
set_option maxRecDepth 100000 in
set_option maxHeartbeats 2000000 in
theorem clean_2 (vn vs : Value) (a b c d e f : Int) (ns : List Int) (ss : List ByteArray) (w : World) (hN : IntsAt w vn ns) (hS : StrsAt w vs ss) :
    Calls Try.prog 25 #[.agg #[.int .i64 (2 : Int), vn, vs, .int .i64 a, .int .i64 b, .int .i64 c, .int .i64 d, .int .i64 e, .int .i64 f]] w fun e' w' => ∃ vn' vs', e' = .returned (.agg (argV 2 vn' vs' 0 0 0 0 0 0)) ∧ NRow w w' vn ns vn' [] ∧ SRow w w' vs ss vs' [] ∧ Below w.heap.size w w' := by
  obtain ⟨An, cn, rfl, -⟩ := id hN
  obtain ⟨As, cs, rfl, -⟩ := id hS
  have HN := hide (And.intro hN hS); clear hN hS
  go_enter Try.func25, Try.ntmps25
  go_wp2_with fail
  (try simp only [Exit.inBlock, Exit.then])
  refine bodyPost_ret (results_cell_row rfl _ _ (w.heap.size + 1) _ _ (0, 0) _ rfl (cl_mid w _ _ _) Try.underlying52 rfl (by kernel_rfl)) rfl ?_
  exact ⟨_, _, rfl, .inr (World.ownsRow_nil _ _ _ _), .inr (World.ownsRow_nil _ _ _ _), cl_below3 w _ _ _⟩
set_option maxRecDepth 100000 in
set_option maxHeartbeats 2000000 in
theorem clean_3 (vn vs : Value) (a b c d e f : Int) (ns : List Int) (ss : List ByteArray) (w : World) (hN : IntsAt w vn ns) (hS : StrsAt w vs ss) :
    Calls Try.prog 25 #[.agg #[.int .i64 (3 : Int), vn, vs, .int .i64 a, .int .i64 b, .int .i64 c, .int .i64 d, .int .i64 e, .int .i64 f]] w fun e' w' => ∃ vn' vs', e' = .returned (.agg (argV 3 vn' vs' 0 0 0 0 0 0)) ∧ NRow w w' vn ns vn' [] ∧ SRow w w' vs ss vs' ss ∧ Below w.heap.size w w' := by
  obtain ⟨An, cn, rfl, -⟩ := id hN
  obtain ⟨As, cs, rfl, -⟩ := id hS
  have HN := hide (And.intro hN hS); clear hN hS
  go_enter Try.func25, Try.ntmps25
  go_wp2_with fail
  (try simp only [Exit.inBlock, Exit.then])
  refine bodyPost_ret (results_cell_row rfl _ _ (w.heap.size + 1) _ _ (0, 0) _ rfl (cl_mid w _ _ _) Try.underlying52 rfl (by kernel_rfl)) rfl ?_
  exact ⟨_, _, rfl, .inr (World.ownsRow_nil _ _ _ _), .inl ⟨rfl, rfl⟩, cl_below3 w _ _ _⟩
set_option maxRecDepth 100000 in
set_option maxHeartbeats 2000000 in
theorem clean_4 (vn vs : Value) (a b c d e f : Int) (ns : List Int) (ss : List ByteArray) (w : World) (hN : IntsAt w vn ns) (hS : StrsAt w vs ss) :
    Calls Try.prog 25 #[.agg #[.int .i64 (4 : Int), vn, vs, .int .i64 a, .int .i64 b, .int .i64 c, .int .i64 d, .int .i64 e, .int .i64 f]] w fun e' w' => ∃ vn' vs', e' = .returned (.agg (argV 4 vn' vs' 0 0 0 0 0 0)) ∧ NRow w w' vn ns vn' [] ∧ SRow w w' vs ss vs' [] ∧ Below w.heap.size w w' := by
  obtain ⟨An, cn, rfl, -⟩ := id hN
  obtain ⟨As, cs, rfl, -⟩ := id hS
  have HN := hide (And.intro hN hS); clear hN hS
  go_enter Try.func25, Try.ntmps25
  go_wp2_with fail
  (try simp only [Exit.inBlock, Exit.then])
  refine bodyPost_ret (results_cell_row rfl _ _ (w.heap.size + 1) _ _ (0, 0) _ rfl (cl_mid w _ _ _) Try.underlying52 rfl (by kernel_rfl)) rfl ?_
  exact ⟨_, _, rfl, .inr (World.ownsRow_nil _ _ _ _), .inr (World.ownsRow_nil _ _ _ _), cl_below3 w _ _ _⟩
set_option maxRecDepth 100000 in
set_option maxHeartbeats 2000000 in
theorem clean_5 (vn vs : Value) (a b c d e f : Int) (ns : List Int) (ss : List ByteArray) (w : World) (hN : IntsAt w vn ns) (hS : StrsAt w vs ss) :
    Calls Try.prog 25 #[.agg #[.int .i64 (5 : Int), vn, vs, .int .i64 a, .int .i64 b, .int .i64 c, .int .i64 d, .int .i64 e, .int .i64 f]] w fun e' w' => ∃ vn' vs', e' = .returned (.agg (argV 5 vn' vs' 0 0 0 0 0 0)) ∧ NRow w w' vn ns vn' (fewL ns 1) ∧ SRow w w' vs ss vs' [] ∧ Below w.heap.size w w' := by
  obtain ⟨An, cn, rfl, -⟩ := id hN
  obtain ⟨As, cs, rfl, -⟩ := id hS
  have HN := hide (And.intro hN hS); clear hN hS
  go_enter Try.func25, Try.ntmps25
  go_wp2_with fail
  have hX := ClX.new w #[.int .i64 (5 : Int), .slice An ns.length cn, .slice As ss.length cs, .int .i64 a, .int .i64 b, .int .i64 c, .int .i64 d, .int .i64 e, .int .i64 f] (argV 5 (nilV) nilV 0 0 0 0 0 0)
  have HX := hide hX; clear hX
  refine (few_any _ ns 1 _ ((unhide HN).1.below (unhide HX).b) (by omega)).mono ?_
  rintro e1 w1 ⟨v1, rfl, hO1, hb1⟩
  have hO2 : OwnI w1 (w.heap.size + 1 + 1 + 1) v1 (fewL ns 1) := row_mono hO1 (unhide HX).s.lt
  have H1 := hide (And.intro ((unhide HX).above hb1) hO2); clear HX hO2 hO1 hb1
  obtain ⟨A1, c1, rfl, -⟩ := id (unhide H1).2.ints
  have k1 := (unhide H1).1.s.cell 1; have kf1 := (unhide H1).1.s.frozen 1
  simp only [argV, List.getElem?_toArray, List.getElem?_cons_zero, List.getElem?_cons_succ] at k1
  go_upto_region 38 with fail
  have hX4 : ClX w (w1.setCell ⟨w.heap.size + 1 + 1, 1, none⟩ (.slice A1 (fewL ns 1).length c1)) #[.int .i64 (5 : Int), .slice An ns.length cn, .slice As ss.length cs, .int .i64 a, .int .i64 b, .int .i64 c, .int .i64 d, .int .i64 e, .int .i64 f] (argV 5 (.slice A1 (fewL ns 1).length c1) nilV 0 0 0 0 0 0) := (unhide H1).1.set 1 _
  have hO4 : OwnI (w1.setCell ⟨w.heap.size + 1 + 1, 1, none⟩ (.slice A1 (fewL ns 1).length c1)) (w.heap.size + 1 + 1 + 1) (.slice A1 (fewL ns 1).length c1) (fewL ns 1) := row_far (unhide H1).2 (Nat.lt_succ_self _)
  have H4 := hide (And.intro hX4 hO4)
  clear hX4 hO4 H1 k1 kf1
  generalize w1.setCell ⟨w.heap.size + 1 + 1, 1, none⟩ (.slice A1 (fewL ns 1).length c1) = wb at *
  have m0 := (unhide H4).1.s.cell 0; have m1 := (unhide H4).1.s.cell 1; have m2 := (unhide H4).1.s.cell 2; have m3 := (unhide H4).1.s.cell 3; have m4 := (unhide H4).1.s.cell 4; have m5 := (unhide H4).1.s.cell 5; have m6 := (unhide H4).1.s.cell 6; have m7 := (unhide H4).1.s.cell 7; have m8 := (unhide H4).1.s.cell 8
  have r0 := (unhide H4).1.r.cell 0; have f0 := (unhide H4).1.r.frozen 0; have r1 := (unhide H4).1.r.cell 1; have f1 := (unhide H4).1.r.frozen 1; have r2 := (unhide H4).1.r.cell 2; have f2 := (unhide H4).1.r.frozen 2; have r3 := (unhide H4).1.r.cell 3; have f3 := (unhide H4).1.r.frozen 3; have r4 := (unhide H4).1.r.cell 4; have f4 := (unhide H4).1.r.frozen 4; have r5 := (unhide H4).1.r.cell 5; have f5 := (unhide H4).1.r.frozen 5; have r6 := (unhide H4).1.r.cell 6; have f6 := (unhide H4).1.r.frozen 6; have r7 := (unhide H4).1.r.cell 7; have f7 := (unhide H4).1.r.frozen 7; have r8 := (unhide H4).1.r.cell 8; have f8 := (unhide H4).1.r.frozen 8
  simp only [argV, List.getElem?_toArray, List.getElem?_cons_zero, List.getElem?_cons_succ] at m0 r0 m1 r1 m2 r2 m3 r3 m4 r4 m5 r5 m6 r6 m7 r7 m8 r8
  go_wp2_with fail
  (try simp only [Exit.inBlock, Exit.then])
  refine bodyPost_ret (results_cell_row rfl _ _ (w.heap.size + 1) _ _ (0, 0) _ rfl (blk9_put (unhide H4).1.r _ _ _ _ _ _ _ _ _) Try.underlying52 rfl (by kernel_rfl)) rfl ?_
  exact ⟨_, _, rfl, .inr (ow_i9 (unhide H4).2 _ _ _ _ _ _ _ _ _), .inr (World.ownsRow_nil _ _ _ _), below9_put (unhide H4).1.b (Nat.le_succ _) _ _ _ _ _ _ _ _ _⟩
set_option maxRecDepth 100000 in
set_option maxHeartbeats 2000000 in
theorem clean_6 (vn vs : Value) (a b c d e f : Int) (ns : List Int) (ss : List ByteArray) (w : World) (hN : IntsAt w vn ns) (hS : StrsAt w vs ss) :
    Calls Try.prog 25 #[.agg #[.int .i64 (6 : Int), vn, vs, .int .i64 a, .int .i64 b, .int .i64 c, .int .i64 d, .int .i64 e, .int .i64 f]] w fun e' w' => ∃ vn' vs', e' = .returned (.agg (argV 6 vn' vs' 0 0 0 0 0 0)) ∧ NRow w w' vn ns vn' (fewL ns 2) ∧ SRow w w' vs ss vs' [] ∧ Below w.heap.size w w' := by
  obtain ⟨An, cn, rfl, -⟩ := id hN
  obtain ⟨As, cs, rfl, -⟩ := id hS
  have HN := hide (And.intro hN hS); clear hN hS
  go_enter Try.func25, Try.ntmps25
  go_wp2_with fail
  have hX := ClX.new w #[.int .i64 (6 : Int), .slice An ns.length cn, .slice As ss.length cs, .int .i64 a, .int .i64 b, .int .i64 c, .int .i64 d, .int .i64 e, .int .i64 f] (argV 6 (nilV) nilV 0 0 0 0 0 0)
  have HX := hide hX; clear hX
  refine (few_any _ ns 2 _ ((unhide HN).1.below (unhide HX).b) (by omega)).mono ?_
  rintro e1 w1 ⟨v1, rfl, hO1, hb1⟩
  have hO2 : OwnI w1 (w.heap.size + 1 + 1 + 1) v1 (fewL ns 2) := row_mono hO1 (unhide HX).s.lt
  have H1 := hide (And.intro ((unhide HX).above hb1) hO2); clear HX hO2 hO1 hb1
  obtain ⟨A1, c1, rfl, -⟩ := id (unhide H1).2.ints
  have k1 := (unhide H1).1.s.cell 1; have kf1 := (unhide H1).1.s.frozen 1
  simp only [argV, List.getElem?_toArray, List.getElem?_cons_zero, List.getElem?_cons_succ] at k1
  go_upto_region 38 with fail
  have hX4 : ClX w (w1.setCell ⟨w.heap.size + 1 + 1, 1, none⟩ (.slice A1 (fewL ns 2).length c1)) #[.int .i64 (6 : Int), .slice An ns.length cn, .slice As ss.length cs, .int .i64 a, .int .i64 b, .int .i64 c, .int .i64 d, .int .i64 e, .int .i64 f] (argV 6 (.slice A1 (fewL ns 2).length c1) nilV 0 0 0 0 0 0) := (unhide H1).1.set 1 _
  have hO4 : OwnI (w1.setCell ⟨w.heap.size + 1 + 1, 1, none⟩ (.slice A1 (fewL ns 2).length c1)) (w.heap.size + 1 + 1 + 1) (.slice A1 (fewL ns 2).length c1) (fewL ns 2) := row_far (unhide H1).2 (Nat.lt_succ_self _)
  have H4 := hide (And.intro hX4 hO4)
  clear hX4 hO4 H1 k1 kf1
  generalize w1.setCell ⟨w.heap.size + 1 + 1, 1, none⟩ (.slice A1 (fewL ns 2).length c1) = wb at *
  have m0 := (unhide H4).1.s.cell 0; have m1 := (unhide H4).1.s.cell 1; have m2 := (unhide H4).1.s.cell 2; have m3 := (unhide H4).1.s.cell 3; have m4 := (unhide H4).1.s.cell 4; have m5 := (unhide H4).1.s.cell 5; have m6 := (unhide H4).1.s.cell 6; have m7 := (unhide H4).1.s.cell 7; have m8 := (unhide H4).1.s.cell 8
  have r0 := (unhide H4).1.r.cell 0; have f0 := (unhide H4).1.r.frozen 0; have r1 := (unhide H4).1.r.cell 1; have f1 := (unhide H4).1.r.frozen 1; have r2 := (unhide H4).1.r.cell 2; have f2 := (unhide H4).1.r.frozen 2; have r3 := (unhide H4).1.r.cell 3; have f3 := (unhide H4).1.r.frozen 3; have r4 := (unhide H4).1.r.cell 4; have f4 := (unhide H4).1.r.frozen 4; have r5 := (unhide H4).1.r.cell 5; have f5 := (unhide H4).1.r.frozen 5; have r6 := (unhide H4).1.r.cell 6; have f6 := (unhide H4).1.r.frozen 6; have r7 := (unhide H4).1.r.cell 7; have f7 := (unhide H4).1.r.frozen 7; have r8 := (unhide H4).1.r.cell 8; have f8 := (unhide H4).1.r.frozen 8
  simp only [argV, List.getElem?_toArray, List.getElem?_cons_zero, List.getElem?_cons_succ] at m0 r0 m1 r1 m2 r2 m3 r3 m4 r4 m5 r5 m6 r6 m7 r7 m8 r8
  go_wp2_with fail
  (try simp only [Exit.inBlock, Exit.then])
  refine bodyPost_ret (results_cell_row rfl _ _ (w.heap.size + 1) _ _ (0, 0) _ rfl (blk9_put (unhide H4).1.r _ _ _ _ _ _ _ _ _) Try.underlying52 rfl (by kernel_rfl)) rfl ?_
  exact ⟨_, _, rfl, .inr (ow_i9 (unhide H4).2 _ _ _ _ _ _ _ _ _), .inr (World.ownsRow_nil _ _ _ _), below9_put (unhide H4).1.b (Nat.le_succ _) _ _ _ _ _ _ _ _ _⟩
set_option maxRecDepth 100000 in
set_option maxHeartbeats 2000000 in
theorem clean_7 (vn vs : Value) (a b c d e f : Int) (ns : List Int) (ss : List ByteArray) (w : World) (hN : IntsAt w vn ns) (hS : StrsAt w vs ss) :
    Calls Try.prog 25 #[.agg #[.int .i64 (7 : Int), vn, vs, .int .i64 a, .int .i64 b, .int .i64 c, .int .i64 d, .int .i64 e, .int .i64 f]] w fun e' w' => ∃ vn' vs', e' = .returned (.agg (argV 7 vn' vs' 0 0 0 0 0 0)) ∧ NRow w w' vn ns vn' (fewL ns 1) ∧ SRow w w' vs ss vs' [] ∧ Below w.heap.size w w' := by
  obtain ⟨An, cn, rfl, -⟩ := id hN
  obtain ⟨As, cs, rfl, -⟩ := id hS
  have HN := hide (And.intro hN hS); clear hN hS
  go_enter Try.func25, Try.ntmps25
  go_wp2_with fail
  have hX := ClX.new w #[.int .i64 (7 : Int), .slice An ns.length cn, .slice As ss.length cs, .int .i64 a, .int .i64 b, .int .i64 c, .int .i64 d, .int .i64 e, .int .i64 f] (argV 7 (nilV) nilV 0 0 0 0 0 0)
  have HX := hide hX; clear hX
  refine (few_any _ ns 1 _ ((unhide HN).1.below (unhide HX).b) (by omega)).mono ?_
  rintro e1 w1 ⟨v1, rfl, hO1, hb1⟩
  have hO2 : OwnI w1 (w.heap.size + 1 + 1 + 1) v1 (fewL ns 1) := row_mono hO1 (unhide HX).s.lt
  have H1 := hide (And.intro ((unhide HX).above hb1) hO2); clear HX hO2 hO1 hb1
  obtain ⟨A1, c1, rfl, -⟩ := id (unhide H1).2.ints
  have k1 := (unhide H1).1.s.cell 1; have kf1 := (unhide H1).1.s.frozen 1
  simp only [argV, List.getElem?_toArray, List.getElem?_cons_zero, List.getElem?_cons_succ] at k1
  go_upto_region 38 with fail
  have hX4 : ClX w (w1.setCell ⟨w.heap.size + 1 + 1, 1, none⟩ (.slice A1 (fewL ns 1).length c1)) #[.int .i64 (7 : Int), .slice An ns.length cn, .slice As ss.length cs, .int .i64 a, .int .i64 b, .int .i64 c, .int .i64 d, .int .i64 e, .int .i64 f] (argV 7 (.slice A1 (fewL ns 1).length c1) nilV 0 0 0 0 0 0) := (unhide H1).1.set 1 _
  have hO4 : OwnI (w1.setCell ⟨w.heap.size + 1 + 1, 1, none⟩ (.slice A1 (fewL ns 1).length c1)) (w.heap.size + 1 + 1 + 1) (.slice A1 (fewL ns 1).length c1) (fewL ns 1) := row_far (unhide H1).2 (Nat.lt_succ_self _)
  have H4 := hide (And.intro hX4 hO4)
  clear hX4 hO4 H1 k1 kf1
  generalize w1.setCell ⟨w.heap.size + 1 + 1, 1, none⟩ (.slice A1 (fewL ns 1).length c1) = wb at *
  have m0 := (unhide H4).1.s.cell 0; have m1 := (unhide H4).1.s.cell 1; have m2 := (unhide H4).1.s.cell 2; have m3 := (unhide H4).1.s.cell 3; have m4 := (unhide H4).1.s.cell 4; have m5 := (unhide H4).1.s.cell 5; have m6 := (unhide H4).1.s.cell 6; have m7 := (unhide H4).1.s.cell 7; have m8 := (unhide H4).1.s.cell 8
  have r0 := (unhide H4).1.r.cell 0; have f0 := (unhide H4).1.r.frozen 0; have r1 := (unhide H4).1.r.cell 1; have f1 := (unhide H4).1.r.frozen 1; have r2 := (unhide H4).1.r.cell 2; have f2 := (unhide H4).1.r.frozen 2; have r3 := (unhide H4).1.r.cell 3; have f3 := (unhide H4).1.r.frozen 3; have r4 := (unhide H4).1.r.cell 4; have f4 := (unhide H4).1.r.frozen 4; have r5 := (unhide H4).1.r.cell 5; have f5 := (unhide H4).1.r.frozen 5; have r6 := (unhide H4).1.r.cell 6; have f6 := (unhide H4).1.r.frozen 6; have r7 := (unhide H4).1.r.cell 7; have f7 := (unhide H4).1.r.frozen 7; have r8 := (unhide H4).1.r.cell 8; have f8 := (unhide H4).1.r.frozen 8
  simp only [argV, List.getElem?_toArray, List.getElem?_cons_zero, List.getElem?_cons_succ] at m0 r0 m1 r1 m2 r2 m3 r3 m4 r4 m5 r5 m6 r6 m7 r7 m8 r8
  go_wp2_with fail
  (try simp only [Exit.inBlock, Exit.then])
  refine bodyPost_ret (results_cell_row rfl _ _ (w.heap.size + 1) _ _ (0, 0) _ rfl (blk9_put (unhide H4).1.r _ _ _ _ _ _ _ _ _) Try.underlying52 rfl (by kernel_rfl)) rfl ?_
  exact ⟨_, _, rfl, .inr (ow_i9 (unhide H4).2 _ _ _ _ _ _ _ _ _), .inr (World.ownsRow_nil _ _ _ _), below9_put (unhide H4).1.b (Nat.le_succ _) _ _ _ _ _ _ _ _ _⟩
set_option maxRecDepth 100000 in
set_option maxHeartbeats 2000000 in
theorem clean_8lt (vn vs : Value) (a b c d e f : Int) (ns : List Int) (ss : List ByteArray) (w : World) (hl : ns.length < 4) (hN : IntsAt w vn ns) (hS : StrsAt w vs ss) :
    Calls Try.prog 25 #[.agg #[.int .i64 (8 : Int), vn, vs, .int .i64 a, .int .i64 b, .int .i64 c, .int .i64 d, .int .i64 e, .int .i64 f]] w fun e' w' => ∃ vn' vs', e' = .returned (.agg (argV 8 vn' vs' 0 0 0 0 0 0)) ∧ NRow w w' vn ns vn' (fewL ns 4) ∧ SRow w w' vs ss vs' [] ∧ Below w.heap.size w w' := by
  obtain ⟨An, cn, rfl, -⟩ := id hN
  obtain ⟨As, cs, rfl, -⟩ := id hS
  have HN := hide (And.intro hN hS); clear hN hS
  have ht : (ns.length : Int) < 4 := by omega
  go_enter Try.func25, Try.ntmps25
  go_wp2_with fail
  have hX := ClX.new w #[.int .i64 (8 : Int), .slice An ns.length cn, .slice As ss.length cs, .int .i64 a, .int .i64 b, .int .i64 c, .int .i64 d, .int .i64 e, .int .i64 f] (argV 8 (.slice An ns.length cn) nilV 0 0 0 0 0 0)
  have HX := hide hX; clear hX
  refine (few_any _ ns 4 _ ((unhide HN).1.below (unhide HX).b) (by omega)).mono ?_
  rintro e1 w1 ⟨v1, rfl, hO1, hb1⟩
  have hO2 : OwnI w1 (w.heap.size + 1 + 1 + 1) v1 (fewL ns 4) := row_mono hO1 (unhide HX).s.lt
  have H1 := hide (And.intro ((unhide HX).above hb1) hO2); clear HX hO2 hO1 hb1
  obtain ⟨A1, c1, rfl, -⟩ := id (unhide H1).2.ints
  have k1 := (unhide H1).1.s.cell 1; have kf1 := (unhide H1).1.s.frozen 1
  simp only [argV, List.getElem?_toArray, List.getElem?_cons_zero, List.getElem?_cons_succ] at k1
  go_upto_region 38 with fail
  have hX4 : ClX w (w1.setCell ⟨w.heap.size + 1 + 1, 1, none⟩ (.slice A1 (fewL ns 4).length c1)) #[.int .i64 (8 : Int), .slice An ns.length cn, .slice As ss.length cs, .int .i64 a, .int .i64 b, .int .i64 c, .int .i64 d, .int .i64 e, .int .i64 f] (argV 8 (.slice A1 (fewL ns 4).length c1) nilV 0 0 0 0 0 0) := (unhide H1).1.set 1 _
  have hO4 : OwnI (w1.setCell ⟨w.heap.size + 1 + 1, 1, none⟩ (.slice A1 (fewL ns 4).length c1)) (w.heap.size + 1 + 1 + 1) (.slice A1 (fewL ns 4).length c1) (fewL ns 4) := row_far (unhide H1).2 (Nat.lt_succ_self _)
  have H4 := hide (And.intro hX4 hO4)
  clear hX4 hO4 H1 k1 kf1
  generalize w1.setCell ⟨w.heap.size + 1 + 1, 1, none⟩ (.slice A1 (fewL ns 4).length c1) = wb at *
  have m0 := (unhide H4).1.s.cell 0; have m1 := (unhide H4).1.s.cell 1; have m2 := (unhide H4).1.s.cell 2; have m3 := (unhide H4).1.s.cell 3; have m4 := (unhide H4).1.s.cell 4; have m5 := (unhide H4).1.s.cell 5; have m6 := (unhide H4).1.s.cell 6; have m7 := (unhide H4).1.s.cell 7; have m8 := (unhide H4).1.s.cell 8
  have r0 := (unhide H4).1.r.cell 0; have f0 := (unhide H4).1.r.frozen 0; have r1 := (unhide H4).1.r.cell 1; have f1 := (unhide H4).1.r.frozen 1; have r2 := (unhide H4).1.r.cell 2; have f2 := (unhide H4).1.r.frozen 2; have r3 := (unhide H4).1.r.cell 3; have f3 := (unhide H4).1.r.frozen 3; have r4 := (unhide H4).1.r.cell 4; have f4 := (unhide H4).1.r.frozen 4; have r5 := (unhide H4).1.r.cell 5; have f5 := (unhide H4).1.r.frozen 5; have r6 := (unhide H4).1.r.cell 6; have f6 := (unhide H4).1.r.frozen 6; have r7 := (unhide H4).1.r.cell 7; have f7 := (unhide H4).1.r.frozen 7; have r8 := (unhide H4).1.r.cell 8; have f8 := (unhide H4).1.r.frozen 8
  simp only [argV, List.getElem?_toArray, List.getElem?_cons_zero, List.getElem?_cons_succ] at m0 r0 m1 r1 m2 r2 m3 r3 m4 r4 m5 r5 m6 r6 m7 r7 m8 r8
  go_wp2_with fail
  (try simp only [Exit.inBlock, Exit.then])
  refine bodyPost_ret (results_cell_row rfl _ _ (w.heap.size + 1) _ _ (0, 0) _ rfl (blk9_put (unhide H4).1.r _ _ _ _ _ _ _ _ _) Try.underlying52 rfl (by kernel_rfl)) rfl ?_
  exact ⟨_, _, rfl, .inr (ow_i9 (unhide H4).2 _ _ _ _ _ _ _ _ _), .inr (World.ownsRow_nil _ _ _ _), below9_put (unhide H4).1.b (Nat.le_succ _) _ _ _ _ _ _ _ _ _⟩
set_option maxRecDepth 100000 in
set_option maxHeartbeats 2000000 in
theorem clean_8ge (vn vs : Value) (a b c d e f : Int) (ns : List Int) (ss : List ByteArray) (w : World) (hl : 4 ≤ ns.length) (hN : IntsAt w vn ns) (hS : StrsAt w vs ss) :
    Calls Try.prog 25 #[.agg #[.int .i64 (8 : Int), vn, vs, .int .i64 a, .int .i64 b, .int .i64 c, .int .i64 d, .int .i64 e, .int .i64 f]] w fun e' w' => ∃ vn' vs', e' = .returned (.agg (argV 8 vn' vs' 0 0 0 0 0 0)) ∧ NRow w w' vn ns vn' ns ∧ SRow w w' vs ss vs' [] ∧ Below w.heap.size w w' := by
  obtain ⟨An, cn, rfl, -⟩ := id hN
  obtain ⟨As, cs, rfl, -⟩ := id hS
  have HN := hide (And.intro hN hS); clear hN hS
  have ht : ¬ (ns.length : Int) < 4 := by omega
  go_enter Try.func25, Try.ntmps25
  go_wp2_with fail
  (try simp only [Exit.inBlock, Exit.then])
  refine bodyPost_ret (results_cell_row rfl _ _ (w.heap.size + 1) _ _ (0, 0) _ rfl (cl_mid w _ _ _) Try.underlying52 rfl (by kernel_rfl)) rfl ?_
  exact ⟨_, _, rfl, .inl ⟨rfl, rfl⟩, .inr (World.ownsRow_nil _ _ _ _), cl_below3 w _ _ _⟩
set_option maxRecDepth 100000 in
set_option maxHeartbeats 2000000 in
theorem clean_9 (vn vs : Value) (a b c d e f : Int) (ns : List Int) (ss : List ByteArray) (w : World) (hN : IntsAt w vn ns) (hS : StrsAt w vs ss) :
    Calls Try.prog 25 #[.agg #[.int .i64 (9 : Int), vn, vs, .int .i64 a, .int .i64 b, .int .i64 c, .int .i64 d, .int .i64 e, .int .i64 f]] w fun e' w' => ∃ vn' vs', e' = .returned (.agg (argV 9 vn' vs' 0 0 0 0 0 0)) ∧ NRow w w' vn ns vn' [] ∧ SRow w w' vs ss vs' (someL ss 1) ∧ Below w.heap.size w w' := by
  obtain ⟨An, cn, rfl, -⟩ := id hN
  obtain ⟨As, cs, rfl, -⟩ := id hS
  have HN := hide (And.intro hN hS); clear hN hS
  go_enter Try.func25, Try.ntmps25
  go_wp2_with fail
  have hX := ClX.new w #[.int .i64 (9 : Int), .slice An ns.length cn, .slice As ss.length cs, .int .i64 a, .int .i64 b, .int .i64 c, .int .i64 d, .int .i64 e, .int .i64 f] (argV 9 (nilV) nilV 0 0 0 0 0 0)
  have HX := hide hX; clear hX
  refine (some_any _ ss 1 _ ((unhide HN).2.below (unhide HX).b) (by omega)).mono ?_
  rintro e5 w5 ⟨v5, rfl, hO5, hb5⟩
  have hO6 : OwnT w5 (w.heap.size + 1 + 1 + 1) v5 (someL ss 1) := row_mono hO5 (unhide HX).s.lt
  have H5 := hide (And.intro ((unhide HX).above hb5) (And.intro hO6 True.intro)); clear HX hO6 hO5 hb5
  obtain ⟨A5, c5, rfl, -⟩ := id (own_strs (unhide H5).2.1)
  have k1 := (unhide H5).1.s.cell 2; have kf1 := (unhide H5).1.s.frozen 2
  simp only [argV, List.getElem?_toArray, List.getElem?_cons_zero, List.getElem?_cons_succ] at k1
  go_upto_region 38 with fail
  have hX8 : ClX w (w5.setCell ⟨w.heap.size + 1 + 1, 2, none⟩ (.slice A5 (someL ss 1).length c5)) #[.int .i64 (9 : Int), .slice An ns.length cn, .slice As ss.length cs, .int .i64 a, .int .i64 b, .int .i64 c, .int .i64 d, .int .i64 e, .int .i64 f] (argV 9 nilV (.slice A5 (someL ss 1).length c5) 0 0 0 0 0 0) := (unhide H5).1.set 2 _
  have hO8 : OwnT (w5.setCell ⟨w.heap.size + 1 + 1, 2, none⟩ (.slice A5 (someL ss 1).length c5)) (w.heap.size + 1 + 1 + 1) (.slice A5 (someL ss 1).length c5) (someL ss 1) := row_far (unhide H5).2.1 (Nat.lt_succ_self _)
  have H4 := hide (And.intro hX8 (And.intro hO8 True.intro))
  clear hX8 hO8 H5 k1 kf1
  generalize w5.setCell ⟨w.heap.size + 1 + 1, 2, none⟩ (.slice A5 (someL ss 1).length c5) = wb at *
  have m0 := (unhide H4).1.s.cell 0; have m1 := (unhide H4).1.s.cell 1; have m2 := (unhide H4).1.s.cell 2; have m3 := (unhide H4).1.s.cell 3; have m4 := (unhide H4).1.s.cell 4; have m5 := (unhide H4).1.s.cell 5; have m6 := (unhide H4).1.s.cell 6; have m7 := (unhide H4).1.s.cell 7; have m8 := (unhide H4).1.s.cell 8
  have r0 := (unhide H4).1.r.cell 0; have f0 := (unhide H4).1.r.frozen 0; have r1 := (unhide H4).1.r.cell 1; have f1 := (unhide H4).1.r.frozen 1; have r2 := (unhide H4).1.r.cell 2; have f2 := (unhide H4).1.r.frozen 2; have r3 := (unhide H4).1.r.cell 3; have f3 := (unhide H4).1.r.frozen 3; have r4 := (unhide H4).1.r.cell 4; have f4 := (unhide H4).1.r.frozen 4; have r5 := (unhide H4).1.r.cell 5; have f5 := (unhide H4).1.r.frozen 5; have r6 := (unhide H4).1.r.cell 6; have f6 := (unhide H4).1.r.frozen 6; have r7 := (unhide H4).1.r.cell 7; have f7 := (unhide H4).1.r.frozen 7; have r8 := (unhide H4).1.r.cell 8; have f8 := (unhide H4).1.r.frozen 8
  simp only [argV, List.getElem?_toArray, List.getElem?_cons_zero, List.getElem?_cons_succ] at m0 r0 m1 r1 m2 r2 m3 r3 m4 r4 m5 r5 m6 r6 m7 r7 m8 r8
  go_wp2_with fail
  (try simp only [Exit.inBlock, Exit.then])
  refine bodyPost_ret (results_cell_row rfl _ _ (w.heap.size + 1) _ _ (0, 0) _ rfl (blk9_put (unhide H4).1.r _ _ _ _ _ _ _ _ _) Try.underlying52 rfl (by kernel_rfl)) rfl ?_
  exact ⟨_, _, rfl, .inr (World.ownsRow_nil _ _ _ _), .inr (ow_t9 (unhide H4).2.1 _ _ _ _ _ _ _ _ _), below9_put (unhide H4).1.b (Nat.le_succ _) _ _ _ _ _ _ _ _ _⟩
set_option maxRecDepth 100000 in
set_option maxHeartbeats 2000000 in
theorem clean_10 (vn vs : Value) (a b c d e f : Int) (ns : List Int) (ss : List ByteArray) (w : World) (hN : IntsAt w vn ns) (hS : StrsAt w vs ss) :
    Calls Try.prog 25 #[.agg #[.int .i64 (10 : Int), vn, vs, .int .i64 a, .int .i64 b, .int .i64 c, .int .i64 d, .int .i64 e, .int .i64 f]] w fun e' w' => ∃ vn' vs', e' = .returned (.agg (argV 10 vn' vs' 0 0 0 0 0 0)) ∧ NRow w w' vn ns vn' [] ∧ SRow w w' vs ss vs' [] ∧ Below w.heap.size w w' := by
  obtain ⟨An, cn, rfl, -⟩ := id hN
  obtain ⟨As, cs, rfl, -⟩ := id hS
  have HN := hide (And.intro hN hS); clear hN hS
  go_enter Try.func25, Try.ntmps25
  go_wp2_with fail
  (try simp only [Exit.inBlock, Exit.then])
  refine bodyPost_ret (results_cell_row rfl _ _ (w.heap.size + 1) _ _ (0, 0) _ rfl (cl_mid w _ _ _) Try.underlying52 rfl (by kernel_rfl)) rfl ?_
  exact ⟨_, _, rfl, .inr (World.ownsRow_nil _ _ _ _), .inr (World.ownsRow_nil _ _ _ _), cl_below3 w _ _ _⟩
set_option maxRecDepth 100000 in
set_option maxHeartbeats 2000000 in
theorem clean_11 (vn vs : Value) (a b c d e f : Int) (ns : List Int) (ss : List ByteArray) (w : World) (hN : IntsAt w vn ns) (hS : StrsAt w vs ss) :
    Calls Try.prog 25 #[.agg #[.int .i64 (11 : Int), vn, vs, .int .i64 a, .int .i64 b, .int .i64 c, .int .i64 d, .int .i64 e, .int .i64 f]] w fun e' w' => ∃ vn' vs', e' = .returned (.agg (argV 11 vn' vs' 0 0 0 0 0 0)) ∧ NRow w w' vn ns vn' [] ∧ SRow w w' vs ss vs' ss ∧ Below w.heap.size w w' := by
  obtain ⟨An, cn, rfl, -⟩ := id hN
  obtain ⟨As, cs, rfl, -⟩ := id hS
  have HN := hide (And.intro hN hS); clear hN hS
  go_enter Try.func25, Try.ntmps25
  go_wp2_with fail
  (try simp only [Exit.inBlock, Exit.then])
  refine bodyPost_ret (results_cell_row rfl _ _ (w.heap.size + 1) _ _ (0, 0) _ rfl (cl_mid w _ _ _) Try.underlying52 rfl (by kernel_rfl)) rfl ?_
  exact ⟨_, _, rfl, .inr (World.ownsRow_nil _ _ _ _), .inl ⟨rfl, rfl⟩, cl_below3 w _ _ _⟩
set_option maxRecDepth 100000 in
set_option maxHeartbeats 2000000 in
theorem clean_12 (vn vs : Value) (a b c d e f : Int) (ns : List Int) (ss : List ByteArray) (w : World) (hN : IntsAt w vn ns) (hS : StrsAt w vs ss) :
    Calls Try.prog 25 #[.agg #[.int .i64 (12 : Int), vn, vs, .int .i64 a, .int .i64 b, .int .i64 c, .int .i64 d, .int .i64 e, .int .i64 f]] w fun e' w' => ∃ vn' vs', e' = .returned (.agg (argV 12 vn' vs' a b c d e f)) ∧ NRow w w' vn ns vn' [] ∧ SRow w w' vs ss vs' [] ∧ Below w.heap.size w w' := by
  obtain ⟨An, cn, rfl, -⟩ := id hN
  obtain ⟨As, cs, rfl, -⟩ := id hS
  have HN := hide (And.intro hN hS); clear hN hS
  go_enter Try.func25, Try.ntmps25
  go_wp2_with fail
  (try simp only [Exit.inBlock, Exit.then])
  refine bodyPost_ret (results_cell_row rfl _ _ (w.heap.size + 1) _ _ (0, 0) _ rfl (cl_mid w _ _ _) Try.underlying52 rfl (by kernel_rfl)) rfl ?_
  exact ⟨_, _, rfl, .inr (World.ownsRow_nil _ _ _ _), .inr (World.ownsRow_nil _ _ _ _), cl_below3 w _ _ _⟩
set_option maxRecDepth 100000 in
set_option maxHeartbeats 2000000 in
theorem clean_13 (vn vs : Value) (a b c d e f : Int) (ns : List Int) (ss : List ByteArray) (w : World) (hN : IntsAt w vn ns) (hS : StrsAt w vs ss) :
    Calls Try.prog 25 #[.agg #[.int .i64 (13 : Int), vn, vs, .int .i64 a, .int .i64 b, .int .i64 c, .int .i64 d, .int .i64 e, .int .i64 f]] w fun e' w' => ∃ vn' vs', e' = .returned (.agg (argV 13 vn' vs' 0 0 0 0 0 0)) ∧ NRow w w' vn ns vn' (fewL ns 1) ∧ SRow w w' vs ss vs' [] ∧ Below w.heap.size w w' := by
  obtain ⟨An, cn, rfl, -⟩ := id hN
  obtain ⟨As, cs, rfl, -⟩ := id hS
  have HN := hide (And.intro hN hS); clear hN hS
  go_enter Try.func25, Try.ntmps25
  go_wp2_with fail
  have hX := ClX.new w #[.int .i64 (13 : Int), .slice An ns.length cn, .slice As ss.length cs, .int .i64 a, .int .i64 b, .int .i64 c, .int .i64 d, .int .i64 e, .int .i64 f] (argV 13 (nilV) nilV 0 0 0 0 0 0)
  have HX := hide hX; clear hX
  refine (few_any _ ns 1 _ ((unhide HN).1.below (unhide HX).b) (by omega)).mono ?_
  rintro e1 w1 ⟨v1, rfl, hO1, hb1⟩
  have hO2 : OwnI w1 (w.heap.size + 1 + 1 + 1) v1 (fewL ns 1) := row_mono hO1 (unhide HX).s.lt
  have H1 := hide (And.intro ((unhide HX).above hb1) hO2); clear HX hO2 hO1 hb1
  obtain ⟨A1, c1, rfl, -⟩ := id (unhide H1).2.ints
  have k1 := (unhide H1).1.s.cell 1; have kf1 := (unhide H1).1.s.frozen 1
  simp only [argV, List.getElem?_toArray, List.getElem?_cons_zero, List.getElem?_cons_succ] at k1
  go_upto_region 38 with fail
  have hX4 : ClX w (w1.setCell ⟨w.heap.size + 1 + 1, 1, none⟩ (.slice A1 (fewL ns 1).length c1)) #[.int .i64 (13 : Int), .slice An ns.length cn, .slice As ss.length cs, .int .i64 a, .int .i64 b, .int .i64 c, .int .i64 d, .int .i64 e, .int .i64 f] (argV 13 (.slice A1 (fewL ns 1).length c1) nilV 0 0 0 0 0 0) := (unhide H1).1.set 1 _
  have hO4 : OwnI (w1.setCell ⟨w.heap.size + 1 + 1, 1, none⟩ (.slice A1 (fewL ns 1).length c1)) (w.heap.size + 1 + 1 + 1) (.slice A1 (fewL ns 1).length c1) (fewL ns 1) := row_far (unhide H1).2 (Nat.lt_succ_self _)
  have H4 := hide (And.intro hX4 hO4)
  clear hX4 hO4 H1 k1 kf1
  generalize w1.setCell ⟨w.heap.size + 1 + 1, 1, none⟩ (.slice A1 (fewL ns 1).length c1) = wb at *
  have m0 := (unhide H4).1.s.cell 0; have m1 := (unhide H4).1.s.cell 1; have m2 := (unhide H4).1.s.cell 2; have m3 := (unhide H4).1.s.cell 3; have m4 := (unhide H4).1.s.cell 4; have m5 := (unhide H4).1.s.cell 5; have m6 := (unhide H4).1.s.cell 6; have m7 := (unhide H4).1.s.cell 7; have m8 := (unhide H4).1.s.cell 8
  have r0 := (unhide H4).1.r.cell 0; have f0 := (unhide H4).1.r.frozen 0; have r1 := (unhide H4).1.r.cell 1; have f1 := (unhide H4).1.r.frozen 1; have r2 := (unhide H4).1.r.cell 2; have f2 := (unhide H4).1.r.frozen 2; have r3 := (unhide H4).1.r.cell 3; have f3 := (unhide H4).1.r.frozen 3; have r4 := (unhide H4).1.r.cell 4; have f4 := (unhide H4).1.r.frozen 4; have r5 := (unhide H4).1.r.cell 5; have f5 := (unhide H4).1.r.frozen 5; have r6 := (unhide H4).1.r.cell 6; have f6 := (unhide H4).1.r.frozen 6; have r7 := (unhide H4).1.r.cell 7; have f7 := (unhide H4).1.r.frozen 7; have r8 := (unhide H4).1.r.cell 8; have f8 := (unhide H4).1.r.frozen 8
  simp only [argV, List.getElem?_toArray, List.getElem?_cons_zero, List.getElem?_cons_succ] at m0 r0 m1 r1 m2 r2 m3 r3 m4 r4 m5 r5 m6 r6 m7 r7 m8 r8
  go_wp2_with fail
  (try simp only [Exit.inBlock, Exit.then])
  refine bodyPost_ret (results_cell_row rfl _ _ (w.heap.size + 1) _ _ (0, 0) _ rfl (blk9_put (unhide H4).1.r _ _ _ _ _ _ _ _ _) Try.underlying52 rfl (by kernel_rfl)) rfl ?_
  exact ⟨_, _, rfl, .inr (ow_i9 (unhide H4).2 _ _ _ _ _ _ _ _ _), .inr (World.ownsRow_nil _ _ _ _), below9_put (unhide H4).1.b (Nat.le_succ _) _ _ _ _ _ _ _ _ _⟩
set_option maxRecDepth 100000 in
set_option maxHeartbeats 2000000 in
theorem clean_14 (vn vs : Value) (a b c d e f : Int) (ns : List Int) (ss : List ByteArray) (w : World) (hN : IntsAt w vn ns) (hS : StrsAt w vs ss) :
    Calls Try.prog 25 #[.agg #[.int .i64 (14 : Int), vn, vs, .int .i64 a, .int .i64 b, .int .i64 c, .int .i64 d, .int .i64 e, .int .i64 f]] w fun e' w' => ∃ vn' vs', e' = .returned (.agg (argV 14 vn' vs' 0 0 0 0 0 0)) ∧ NRow w w' vn ns vn' [] ∧ SRow w w' vs ss vs' [] ∧ Below w.heap.size w w' := by
  obtain ⟨An, cn, rfl, -⟩ := id hN
  obtain ⟨As, cs, rfl, -⟩ := id hS
  have HN := hide (And.intro hN hS); clear hN hS
  go_enter Try.func25, Try.ntmps25
  go_wp2_with fail
  (try simp only [Exit.inBlock, Exit.then])
  refine bodyPost_ret (results_cell_row rfl _ _ (w.heap.size + 1) _ _ (0, 0) _ rfl (cl_mid w _ _ _) Try.underlying52 rfl (by kernel_rfl)) rfl ?_
  exact ⟨_, _, rfl, .inr (World.ownsRow_nil _ _ _ _), .inr (World.ownsRow_nil _ _ _ _), cl_below3 w _ _ _⟩
set_option maxRecDepth 100000 in
set_option maxHeartbeats 2000000 in
theorem clean_15 (vn vs : Value) (a b c d e f : Int) (ns : List Int) (ss : List ByteArray) (w : World) (hN : IntsAt w vn ns) (hS : StrsAt w vs ss) :
    Calls Try.prog 25 #[.agg #[.int .i64 (15 : Int), vn, vs, .int .i64 a, .int .i64 b, .int .i64 c, .int .i64 d, .int .i64 e, .int .i64 f]] w fun e' w' => ∃ vn' vs', e' = .returned (.agg (argV 15 vn' vs' 0 0 0 0 0 0)) ∧ NRow w w' vn ns vn' [] ∧ SRow w w' vs ss vs' [] ∧ Below w.heap.size w w' := by
  obtain ⟨An, cn, rfl, -⟩ := id hN
  obtain ⟨As, cs, rfl, -⟩ := id hS
  have HN := hide (And.intro hN hS); clear hN hS
  go_enter Try.func25, Try.ntmps25
  go_wp2_with fail
  (try simp only [Exit.inBlock, Exit.then])
  refine bodyPost_ret (results_cell_row rfl _ _ (w.heap.size + 1) _ _ (0, 0) _ rfl (cl_mid w _ _ _) Try.underlying52 rfl (by kernel_rfl)) rfl ?_
  exact ⟨_, _, rfl, .inr (World.ownsRow_nil _ _ _ _), .inr (World.ownsRow_nil _ _ _ _), cl_below3 w _ _ _⟩
set_option maxRecDepth 100000 in
set_option maxHeartbeats 2000000 in
theorem clean_16 (vn vs : Value) (a b c d e f : Int) (ns : List Int) (ss : List ByteArray) (w : World) (hN : IntsAt w vn ns) (hS : StrsAt w vs ss) :
    Calls Try.prog 25 #[.agg #[.int .i64 (16 : Int), vn, vs, .int .i64 a, .int .i64 b, .int .i64 c, .int .i64 d, .int .i64 e, .int .i64 f]] w fun e' w' => ∃ vn' vs', e' = .returned (.agg (argV 16 vn' vs' 0 0 0 0 0 0)) ∧ NRow w w' vn ns vn' [] ∧ SRow w w' vs ss vs' [] ∧ Below w.heap.size w w' := by
  obtain ⟨An, cn, rfl, -⟩ := id hN
  obtain ⟨As, cs, rfl, -⟩ := id hS
  have HN := hide (And.intro hN hS); clear hN hS
  go_enter Try.func25, Try.ntmps25
  go_wp2_with fail
  (try simp only [Exit.inBlock, Exit.then])
  refine bodyPost_ret (results_cell_row rfl _ _ (w.heap.size + 1) _ _ (0, 0) _ rfl (cl_mid w _ _ _) Try.underlying52 rfl (by kernel_rfl)) rfl ?_
  exact ⟨_, _, rfl, .inr (World.ownsRow_nil _ _ _ _), .inr (World.ownsRow_nil _ _ _ _), cl_below3 w _ _ _⟩
set_option maxRecDepth 100000 in
set_option maxHeartbeats 2000000 in
theorem clean_17 (vn vs : Value) (a b c d e f : Int) (ns : List Int) (ss : List ByteArray) (w : World) (hN : IntsAt w vn ns) (hS : StrsAt w vs ss) :
    Calls Try.prog 25 #[.agg #[.int .i64 (17 : Int), vn, vs, .int .i64 a, .int .i64 b, .int .i64 c, .int .i64 d, .int .i64 e, .int .i64 f]] w fun e' w' => ∃ vn' vs', e' = .returned (.agg (argV 17 vn' vs' 0 0 0 0 0 0)) ∧ NRow w w' vn ns vn' (fewL ns 1) ∧ SRow w w' vs ss vs' [] ∧ Below w.heap.size w w' := by
  obtain ⟨An, cn, rfl, -⟩ := id hN
  obtain ⟨As, cs, rfl, -⟩ := id hS
  have HN := hide (And.intro hN hS); clear hN hS
  go_enter Try.func25, Try.ntmps25
  go_wp2_with fail
  have hX := ClX.new w #[.int .i64 (17 : Int), .slice An ns.length cn, .slice As ss.length cs, .int .i64 a, .int .i64 b, .int .i64 c, .int .i64 d, .int .i64 e, .int .i64 f] (argV 17 (nilV) nilV 0 0 0 0 0 0)
  have HX := hide hX; clear hX
  refine (few_any _ ns 1 _ ((unhide HN).1.below (unhide HX).b) (by omega)).mono ?_
  rintro e1 w1 ⟨v1, rfl, hO1, hb1⟩
  have hO2 : OwnI w1 (w.heap.size + 1 + 1 + 1) v1 (fewL ns 1) := row_mono hO1 (unhide HX).s.lt
  have H1 := hide (And.intro ((unhide HX).above hb1) hO2); clear HX hO2 hO1 hb1
  obtain ⟨A1, c1, rfl, -⟩ := id (unhide H1).2.ints
  have k1 := (unhide H1).1.s.cell 1; have kf1 := (unhide H1).1.s.frozen 1
  simp only [argV, List.getElem?_toArray, List.getElem?_cons_zero, List.getElem?_cons_succ] at k1
  go_upto_region 38 with fail
  have hX4 : ClX w (w1.setCell ⟨w.heap.size + 1 + 1, 1, none⟩ (.slice A1 (fewL ns 1).length c1)) #[.int .i64 (17 : Int), .slice An ns.length cn, .slice As ss.length cs, .int .i64 a, .int .i64 b, .int .i64 c, .int .i64 d, .int .i64 e, .int .i64 f] (argV 17 (.slice A1 (fewL ns 1).length c1) nilV 0 0 0 0 0 0) := (unhide H1).1.set 1 _
  have hO4 : OwnI (w1.setCell ⟨w.heap.size + 1 + 1, 1, none⟩ (.slice A1 (fewL ns 1).length c1)) (w.heap.size + 1 + 1 + 1) (.slice A1 (fewL ns 1).length c1) (fewL ns 1) := row_far (unhide H1).2 (Nat.lt_succ_self _)
  have H4 := hide (And.intro hX4 hO4)
  clear hX4 hO4 H1 k1 kf1
  generalize w1.setCell ⟨w.heap.size + 1 + 1, 1, none⟩ (.slice A1 (fewL ns 1).length c1) = wb at *
  have m0 := (unhide H4).1.s.cell 0; have m1 := (unhide H4).1.s.cell 1; have m2 := (unhide H4).1.s.cell 2; have m3 := (unhide H4).1.s.cell 3; have m4 := (unhide H4).1.s.cell 4; have m5 := (unhide H4).1.s.cell 5; have m6 := (unhide H4).1.s.cell 6; have m7 := (unhide H4).1.s.cell 7; have m8 := (unhide H4).1.s.cell 8
  have r0 := (unhide H4).1.r.cell 0; have f0 := (unhide H4).1.r.frozen 0; have r1 := (unhide H4).1.r.cell 1; have f1 := (unhide H4).1.r.frozen 1; have r2 := (unhide H4).1.r.cell 2; have f2 := (unhide H4).1.r.frozen 2; have r3 := (unhide H4).1.r.cell 3; have f3 := (unhide H4).1.r.frozen 3; have r4 := (unhide H4).1.r.cell 4; have f4 := (unhide H4).1.r.frozen 4; have r5 := (unhide H4).1.r.cell 5; have f5 := (unhide H4).1.r.frozen 5; have r6 := (unhide H4).1.r.cell 6; have f6 := (unhide H4).1.r.frozen 6; have r7 := (unhide H4).1.r.cell 7; have f7 := (unhide H4).1.r.frozen 7; have r8 := (unhide H4).1.r.cell 8; have f8 := (unhide H4).1.r.frozen 8
  simp only [argV, List.getElem?_toArray, List.getElem?_cons_zero, List.getElem?_cons_succ] at m0 r0 m1 r1 m2 r2 m3 r3 m4 r4 m5 r5 m6 r6 m7 r7 m8 r8
  go_wp2_with fail
  (try simp only [Exit.inBlock, Exit.then])
  refine bodyPost_ret (results_cell_row rfl _ _ (w.heap.size + 1) _ _ (0, 0) _ rfl (blk9_put (unhide H4).1.r _ _ _ _ _ _ _ _ _) Try.underlying52 rfl (by kernel_rfl)) rfl ?_
  exact ⟨_, _, rfl, .inr (ow_i9 (unhide H4).2 _ _ _ _ _ _ _ _ _), .inr (World.ownsRow_nil _ _ _ _), below9_put (unhide H4).1.b (Nat.le_succ _) _ _ _ _ _ _ _ _ _⟩
set_option maxRecDepth 100000 in
set_option maxHeartbeats 2000000 in
theorem clean_18 (vn vs : Value) (a b c d e f : Int) (ns : List Int) (ss : List ByteArray) (w : World) (hN : IntsAt w vn ns) (hS : StrsAt w vs ss) :
    Calls Try.prog 25 #[.agg #[.int .i64 (18 : Int), vn, vs, .int .i64 a, .int .i64 b, .int .i64 c, .int .i64 d, .int .i64 e, .int .i64 f]] w fun e' w' => ∃ vn' vs', e' = .returned (.agg (argV 18 vn' vs' 0 0 0 0 0 0)) ∧ NRow w w' vn ns vn' [] ∧ SRow w w' vs ss vs' (someL ss 1) ∧ Below w.heap.size w w' := by
  obtain ⟨An, cn, rfl, -⟩ := id hN
  obtain ⟨As, cs, rfl, -⟩ := id hS
  have HN := hide (And.intro hN hS); clear hN hS
  go_enter Try.func25, Try.ntmps25
  go_wp2_with fail
  have hX := ClX.new w #[.int .i64 (18 : Int), .slice An ns.length cn, .slice As ss.length cs, .int .i64 a, .int .i64 b, .int .i64 c, .int .i64 d, .int .i64 e, .int .i64 f] (argV 18 (nilV) nilV 0 0 0 0 0 0)
  have HX := hide hX; clear hX
  refine (some_any _ ss 1 _ ((unhide HN).2.below (unhide HX).b) (by omega)).mono ?_
  rintro e5 w5 ⟨v5, rfl, hO5, hb5⟩
  have hO6 : OwnT w5 (w.heap.size + 1 + 1 + 1) v5 (someL ss 1) := row_mono hO5 (unhide HX).s.lt
  have H5 := hide (And.intro ((unhide HX).above hb5) (And.intro hO6 True.intro)); clear HX hO6 hO5 hb5
  obtain ⟨A5, c5, rfl, -⟩ := id (own_strs (unhide H5).2.1)
  have k1 := (unhide H5).1.s.cell 2; have kf1 := (unhide H5).1.s.frozen 2
  simp only [argV, List.getElem?_toArray, List.getElem?_cons_zero, List.getElem?_cons_succ] at k1
  go_upto_region 38 with fail
  have hX8 : ClX w (w5.setCell ⟨w.heap.size + 1 + 1, 2, none⟩ (.slice A5 (someL ss 1).length c5)) #[.int .i64 (18 : Int), .slice An ns.length cn, .slice As ss.length cs, .int .i64 a, .int .i64 b, .int .i64 c, .int .i64 d, .int .i64 e, .int .i64 f] (argV 18 nilV (.slice A5 (someL ss 1).length c5) 0 0 0 0 0 0) := (unhide H5).1.set 2 _
  have hO8 : OwnT (w5.setCell ⟨w.heap.size + 1 + 1, 2, none⟩ (.slice A5 (someL ss 1).length c5)) (w.heap.size + 1 + 1 + 1) (.slice A5 (someL ss 1).length c5) (someL ss 1) := row_far (unhide H5).2.1 (Nat.lt_succ_self _)
  have H4 := hide (And.intro hX8 (And.intro hO8 True.intro))
  clear hX8 hO8 H5 k1 kf1
  generalize w5.setCell ⟨w.heap.size + 1 + 1, 2, none⟩ (.slice A5 (someL ss 1).length c5) = wb at *
  have m0 := (unhide H4).1.s.cell 0; have m1 := (unhide H4).1.s.cell 1; have m2 := (unhide H4).1.s.cell 2; have m3 := (unhide H4).1.s.cell 3; have m4 := (unhide H4).1.s.cell 4; have m5 := (unhide H4).1.s.cell 5; have m6 := (unhide H4).1.s.cell 6; have m7 := (unhide H4).1.s.cell 7; have m8 := (unhide H4).1.s.cell 8
  have r0 := (unhide H4).1.r.cell 0; have f0 := (unhide H4).1.r.frozen 0; have r1 := (unhide H4).1.r.cell 1; have f1 := (unhide H4).1.r.frozen 1; have r2 := (unhide H4).1.r.cell 2; have f2 := (unhide H4).1.r.frozen 2; have r3 := (unhide H4).1.r.cell 3; have f3 := (unhide H4).1.r.frozen 3; have r4 := (unhide H4).1.r.cell 4; have f4 := (unhide H4).1.r.frozen 4; have r5 := (unhide H4).1.r.cell 5; have f5 := (unhide H4).1.r.frozen 5; have r6 := (unhide H4).1.r.cell 6; have f6 := (unhide H4).1.r.frozen 6; have r7 := (unhide H4).1.r.cell 7; have f7 := (unhide H4).1.r.frozen 7; have r8 := (unhide H4).1.r.cell 8; have f8 := (unhide H4).1.r.frozen 8
  simp only [argV, List.getElem?_toArray, List.getElem?_cons_zero, List.getElem?_cons_succ] at m0 r0 m1 r1 m2 r2 m3 r3 m4 r4 m5 r5 m6 r6 m7 r7 m8 r8
  go_wp2_with fail
  (try simp only [Exit.inBlock, Exit.then])
  refine bodyPost_ret (results_cell_row rfl _ _ (w.heap.size + 1) _ _ (0, 0) _ rfl (blk9_put (unhide H4).1.r _ _ _ _ _ _ _ _ _) Try.underlying52 rfl (by kernel_rfl)) rfl ?_
  exact ⟨_, _, rfl, .inr (World.ownsRow_nil _ _ _ _), .inr (ow_t9 (unhide H4).2.1 _ _ _ _ _ _ _ _ _), below9_put (unhide H4).1.b (Nat.le_succ _) _ _ _ _ _ _ _ _ _⟩
set_option maxRecDepth 100000 in
set_option maxHeartbeats 2000000 in
theorem clean_19 (vn vs : Value) (a b c d e f : Int) (ns : List Int) (ss : List ByteArray) (w : World) (hN : IntsAt w vn ns) (hS : StrsAt w vs ss) :
    Calls Try.prog 25 #[.agg #[.int .i64 (19 : Int), vn, vs, .int .i64 a, .int .i64 b, .int .i64 c, .int .i64 d, .int .i64 e, .int .i64 f]] w fun e' w' => ∃ vn' vs', e' = .returned (.agg (argV 19 vn' vs' 0 0 0 0 0 0)) ∧ NRow w w' vn ns vn' [] ∧ SRow w w' vs ss vs' [] ∧ Below w.heap.size w w' := by
  obtain ⟨An, cn, rfl, -⟩ := id hN
  obtain ⟨As, cs, rfl, -⟩ := id hS
  have HN := hide (And.intro hN hS); clear hN hS
  go_enter Try.func25, Try.ntmps25
  go_wp2_with fail
  (try simp only [Exit.inBlock, Exit.then])
  refine bodyPost_ret (results_cell_row rfl _ _ (w.heap.size + 1) _ _ (0, 0) _ rfl (cl_mid w _ _ _) Try.underlying52 rfl (by kernel_rfl)) rfl ?_
  exact ⟨_, _, rfl, .inr (World.ownsRow_nil _ _ _ _), .inr (World.ownsRow_nil _ _ _ _), cl_below3 w _ _ _⟩
set_option maxRecDepth 100000 in
set_option maxHeartbeats 2000000 in
theorem clean_20 (vn vs : Value) (a b c d e f : Int) (ns : List Int) (ss : List ByteArray) (w : World) (hN : IntsAt w vn ns) (hS : StrsAt w vs ss) :
    Calls Try.prog 25 #[.agg #[.int .i64 (20 : Int), vn, vs, .int .i64 a, .int .i64 b, .int .i64 c, .int .i64 d, .int .i64 e, .int .i64 f]] w fun e' w' => ∃ vn' vs', e' = .returned (.agg (argV 20 vn' vs' 0 0 0 0 0 0)) ∧ NRow w w' vn ns vn' [] ∧ SRow w w' vs ss vs' [] ∧ Below w.heap.size w w' := by
  obtain ⟨An, cn, rfl, -⟩ := id hN
  obtain ⟨As, cs, rfl, -⟩ := id hS
  have HN := hide (And.intro hN hS); clear hN hS
  go_enter Try.func25, Try.ntmps25
  go_wp2_with fail
  (try simp only [Exit.inBlock, Exit.then])
  refine bodyPost_ret (results_cell_row rfl _ _ (w.heap.size + 1) _ _ (0, 0) _ rfl (cl_mid w _ _ _) Try.underlying52 rfl (by kernel_rfl)) rfl ?_
  exact ⟨_, _, rfl, .inr (World.ownsRow_nil _ _ _ _), .inr (World.ownsRow_nil _ _ _ _), cl_below3 w _ _ _⟩
set_option maxRecDepth 100000 in
set_option maxHeartbeats 2000000 in
theorem clean_21 (vn vs : Value) (a b c d e f : Int) (ns : List Int) (ss : List ByteArray) (w : World) (hN : IntsAt w vn ns) (hS : StrsAt w vs ss) :
    Calls Try.prog 25 #[.agg #[.int .i64 (21 : Int), vn, vs, .int .i64 a, .int .i64 b, .int .i64 c, .int .i64 d, .int .i64 e, .int .i64 f]] w fun e' w' => ∃ vn' vs', e' = .returned (.agg (argV 21 vn' vs' 0 0 0 0 0 0)) ∧ NRow w w' vn ns vn' (fewL ns 1) ∧ SRow w w' vs ss vs' (someL ss 2) ∧ Below w.heap.size w w' := by
  obtain ⟨An, cn, rfl, -⟩ := id hN
  obtain ⟨As, cs, rfl, -⟩ := id hS
  have HN := hide (And.intro hN hS); clear hN hS
  go_enter Try.func25, Try.ntmps25
  go_wp2_with fail
  have hX := ClX.new w #[.int .i64 (21 : Int), .slice An ns.length cn, .slice As ss.length cs, .int .i64 a, .int .i64 b, .int .i64 c, .int .i64 d, .int .i64 e, .int .i64 f] (argV 21 (nilV) nilV 0 0 0 0 0 0)
  have HX := hide hX; clear hX
  refine (few_any _ ns 1 _ ((unhide HN).1.below (unhide HX).b) (by omega)).mono ?_
  rintro e1 w1 ⟨v1, rfl, hO1, hb1⟩
  have hO2 : OwnI w1 (w.heap.size + 1 + 1 + 1) v1 (fewL ns 1) := row_mono hO1 (unhide HX).s.lt
  have H1 := hide (And.intro ((unhide HX).above hb1) hO2); clear HX hO2 hO1 hb1
  obtain ⟨A1, c1, rfl, -⟩ := id (unhide H1).2.ints
  have k1 := (unhide H1).1.s.cell 1; have kf1 := (unhide H1).1.s.frozen 1
  simp only [argV, List.getElem?_toArray, List.getElem?_cons_zero, List.getElem?_cons_succ] at k1
  have j2 := (unhide H1).1.x.cell 2
  simp only [List.getElem?_toArray, List.getElem?_cons_zero, List.getElem?_cons_succ] at j2
  go_upto_region 37 with fail
  have hX4 : ClX w (w1.setCell ⟨w.heap.size + 1 + 1, 1, none⟩ (.slice A1 (fewL ns 1).length c1)) #[.int .i64 (21 : Int), .slice An ns.length cn, .slice As ss.length cs, .int .i64 a, .int .i64 b, .int .i64 c, .int .i64 d, .int .i64 e, .int .i64 f] (argV 21 (.slice A1 (fewL ns 1).length c1) nilV 0 0 0 0 0 0) := (unhide H1).1.set 1 _
  have hO4 : OwnI (w1.setCell ⟨w.heap.size + 1 + 1, 1, none⟩ (.slice A1 (fewL ns 1).length c1)) (w.heap.size + 1 + 1 + 1) (.slice A1 (fewL ns 1).length c1) (fewL ns 1) := row_far (unhide H1).2 (Nat.lt_succ_self _)
  have H4 := hide (And.intro hX4 hO4)
  clear hX4 hO4 H1 k1 kf1 j2
  generalize w1.setCell ⟨w.heap.size + 1 + 1, 1, none⟩ (.slice A1 (fewL ns 1).length c1) = wb at *
  have j2 := (unhide H4).1.x.cell 2
  simp only [List.getElem?_toArray, List.getElem?_cons_zero, List.getElem?_cons_succ] at j2
  go_wp2_with fail
  refine (some_any _ ss 2 _ ((unhide HN).2.below (unhide H4).1.b) (by omega)).mono ?_
  rintro e5 w5 ⟨v5, rfl, hO5, hb5⟩
  have hO6 : OwnT w5 (w.heap.size + 1 + 1 + 1) v5 (someL ss 2) := row_mono hO5 (unhide H4).1.s.lt
  have hO7 : OwnI w5 (w.heap.size + 1 + 1 + 1) (.slice A1 (fewL ns 1).length c1) (fewL ns 1) := row_low (unhide H4).2 (fun q hq => (World.ownsRow.lt (unhide H4).2 q hq).2) hb5
  have H5 := hide (And.intro ((unhide H4).1.above hb5) (And.intro hO6 hO7)); clear H4 hO7 hO6 hO5 hb5
  obtain ⟨A5, c5, rfl, -⟩ := id (own_strs (unhide H5).2.1)
  have k1 := (unhide H5).1.s.cell 2; have kf1 := (unhide H5).1.s.frozen 2
  simp only [argV, List.getElem?_toArray, List.getElem?_cons_zero, List.getElem?_cons_succ] at k1
  go_upto_region 38 with fail
  have hX8 : ClX w (w5.setCell ⟨w.heap.size + 1 + 1, 2, none⟩ (.slice A5 (someL ss 2).length c5)) #[.int .i64 (21 : Int), .slice An ns.length cn, .slice As ss.length cs, .int .i64 a, .int .i64 b, .int .i64 c, .int .i64 d, .int .i64 e, .int .i64 f] (argV 21 (.slice A1 (fewL ns 1).length c1) (.slice A5 (someL ss 2).length c5) 0 0 0 0 0 0) := (unhide H5).1.set 2 _
  have hO8 : OwnT (w5.setCell ⟨w.heap.size + 1 + 1, 2, none⟩ (.slice A5 (someL ss 2).length c5)) (w.heap.size + 1 + 1 + 1) (.slice A5 (someL ss 2).length c5) (someL ss 2) := row_far (unhide H5).2.1 (Nat.lt_succ_self _)
  have hO9 : OwnI (w5.setCell ⟨w.heap.size + 1 + 1, 2, none⟩ (.slice A5 (someL ss 2).length c5)) (w.heap.size + 1 + 1 + 1) (.slice A1 (fewL ns 1).length c1) (fewL ns 1) := row_far (unhide H5).2.2 (Nat.lt_succ_self _)
  have H4 := hide (And.intro hX8 (And.intro hO8 hO9))
  clear hX8 hO8 hO9 H5 k1 kf1
  generalize w5.setCell ⟨w.heap.size + 1 + 1, 2, none⟩ (.slice A5 (someL ss 2).length c5) = wb at *
  have m0 := (unhide H4).1.s.cell 0; have m1 := (unhide H4).1.s.cell 1; have m2 := (unhide H4).1.s.cell 2; have m3 := (unhide H4).1.s.cell 3; have m4 := (unhide H4).1.s.cell 4; have m5 := (unhide H4).1.s.cell 5; have m6 := (unhide H4).1.s.cell 6; have m7 := (unhide H4).1.s.cell 7; have m8 := (unhide H4).1.s.cell 8
  have r0 := (unhide H4).1.r.cell 0; have f0 := (unhide H4).1.r.frozen 0; have r1 := (unhide H4).1.r.cell 1; have f1 := (unhide H4).1.r.frozen 1; have r2 := (unhide H4).1.r.cell 2; have f2 := (unhide H4).1.r.frozen 2; have r3 := (unhide H4).1.r.cell 3; have f3 := (unhide H4).1.r.frozen 3; have r4 := (unhide H4).1.r.cell 4; have f4 := (unhide H4).1.r.frozen 4; have r5 := (unhide H4).1.r.cell 5; have f5 := (unhide H4).1.r.frozen 5; have r6 := (unhide H4).1.r.cell 6; have f6 := (unhide H4).1.r.frozen 6; have r7 := (unhide H4).1.r.cell 7; have f7 := (unhide H4).1.r.frozen 7; have r8 := (unhide H4).1.r.cell 8; have f8 := (unhide H4).1.r.frozen 8
  simp only [argV, List.getElem?_toArray, List.getElem?_cons_zero, List.getElem?_cons_succ] at m0 r0 m1 r1 m2 r2 m3 r3 m4 r4 m5 r5 m6 r6 m7 r7 m8 r8
  go_wp2_with fail
  (try simp only [Exit.inBlock, Exit.then])
  refine bodyPost_ret (results_cell_row rfl _ _ (w.heap.size + 1) _ _ (0, 0) _ rfl (blk9_put (unhide H4).1.r _ _ _ _ _ _ _ _ _) Try.underlying52 rfl (by kernel_rfl)) rfl ?_
  exact ⟨_, _, rfl, .inr (ow_i9 (unhide H4).2.2 _ _ _ _ _ _ _ _ _), .inr (ow_t9 (unhide H4).2.1 _ _ _ _ _ _ _ _ _), below9_put (unhide H4).1.b (Nat.le_succ _) _ _ _ _ _ _ _ _ _⟩
set_option maxRecDepth 100000 in
set_option maxHeartbeats 2000000 in
theorem clean_22 (vn vs : Value) (a b c d e f : Int) (ns : List Int) (ss : List ByteArray) (w : World) (hN : IntsAt w vn ns) (hS : StrsAt w vs ss) :
    Calls Try.prog 25 #[.agg #[.int .i64 (22 : Int), vn, vs, .int .i64 a, .int .i64 b, .int .i64 c, .int .i64 d, .int .i64 e, .int .i64 f]] w fun e' w' => ∃ vn' vs', e' = .returned (.agg (argV 22 vn' vs' 0 0 0 0 0 0)) ∧ NRow w w' vn ns vn' (fewL ns 2) ∧ SRow w w' vs ss vs' [] ∧ Below w.heap.size w w' := by
  obtain ⟨An, cn, rfl, -⟩ := id hN
  obtain ⟨As, cs, rfl, -⟩ := id hS
  have HN := hide (And.intro hN hS); clear hN hS
  go_enter Try.func25, Try.ntmps25
  go_wp2_with fail
  have hX := ClX.new w #[.int .i64 (22 : Int), .slice An ns.length cn, .slice As ss.length cs, .int .i64 a, .int .i64 b, .int .i64 c, .int .i64 d, .int .i64 e, .int .i64 f] (argV 22 (nilV) nilV 0 0 0 0 0 0)
  have HX := hide hX; clear hX
  refine (few_any _ ns 2 _ ((unhide HN).1.below (unhide HX).b) (by omega)).mono ?_
  rintro e1 w1 ⟨v1, rfl, hO1, hb1⟩
  have hO2 : OwnI w1 (w.heap.size + 1 + 1 + 1) v1 (fewL ns 2) := row_mono hO1 (unhide HX).s.lt
  have H1 := hide (And.intro ((unhide HX).above hb1) hO2); clear HX hO2 hO1 hb1
  obtain ⟨A1, c1, rfl, -⟩ := id (unhide H1).2.ints
  have k1 := (unhide H1).1.s.cell 1; have kf1 := (unhide H1).1.s.frozen 1
  simp only [argV, List.getElem?_toArray, List.getElem?_cons_zero, List.getElem?_cons_succ] at k1
  go_upto_region 38 with fail
  have hX4 : ClX w (w1.setCell ⟨w.heap.size + 1 + 1, 1, none⟩ (.slice A1 (fewL ns 2).length c1)) #[.int .i64 (22 : Int), .slice An ns.length cn, .slice As ss.length cs, .int .i64 a, .int .i64 b, .int .i64 c, .int .i64 d, .int .i64 e, .int .i64 f] (argV 22 (.slice A1 (fewL ns 2).length c1) nilV 0 0 0 0 0 0) := (unhide H1).1.set 1 _
  have hO4 : OwnI (w1.setCell ⟨w.heap.size + 1 + 1, 1, none⟩ (.slice A1 (fewL ns 2).length c1)) (w.heap.size + 1 + 1 + 1) (.slice A1 (fewL ns 2).length c1) (fewL ns 2) := row_far (unhide H1).2 (Nat.lt_succ_self _)
  have H4 := hide (And.intro hX4 hO4)
  clear hX4 hO4 H1 k1 kf1
  generalize w1.setCell ⟨w.heap.size + 1 + 1, 1, none⟩ (.slice A1 (fewL ns 2).length c1) = wb at *
  have m0 := (unhide H4).1.s.cell 0; have m1 := (unhide H4).1.s.cell 1; have m2 := (unhide H4).1.s.cell 2; have m3 := (unhide H4).1.s.cell 3; have m4 := (unhide H4).1.s.cell 4; have m5 := (unhide H4).1.s.cell 5; have m6 := (unhide H4).1.s.cell 6; have m7 := (unhide H4).1.s.cell 7; have m8 := (unhide H4).1.s.cell 8
  have r0 := (unhide H4).1.r.cell 0; have f0 := (unhide H4).1.r.frozen 0; have r1 := (unhide H4).1.r.cell 1; have f1 := (unhide H4).1.r.frozen 1; have r2 := (unhide H4).1.r.cell 2; have f2 := (unhide H4).1.r.frozen 2; have r3 := (unhide H4).1.r.cell 3; have f3 := (unhide H4).1.r.frozen 3; have r4 := (unhide H4).1.r.cell 4; have f4 := (unhide H4).1.r.frozen 4; have r5 := (unhide H4).1.r.cell 5; have f5 := (unhide H4).1.r.frozen 5; have r6 := (unhide H4).1.r.cell 6; have f6 := (unhide H4).1.r.frozen 6; have r7 := (unhide H4).1.r.cell 7; have f7 := (unhide H4).1.r.frozen 7; have r8 := (unhide H4).1.r.cell 8; have f8 := (unhide H4).1.r.frozen 8
  simp only [argV, List.getElem?_toArray, List.getElem?_cons_zero, List.getElem?_cons_succ] at m0 r0 m1 r1 m2 r2 m3 r3 m4 r4 m5 r5 m6 r6 m7 r7 m8 r8
  go_wp2_with fail
  (try simp only [Exit.inBlock, Exit.then])
  refine bodyPost_ret (results_cell_row rfl _ _ (w.heap.size + 1) _ _ (0, 0) _ rfl (blk9_put (unhide H4).1.r _ _ _ _ _ _ _ _ _) Try.underlying52 rfl (by kernel_rfl)) rfl ?_
  exact ⟨_, _, rfl, .inr (ow_i9 (unhide H4).2 _ _ _ _ _ _ _ _ _), .inr (World.ownsRow_nil _ _ _ _), below9_put (unhide H4).1.b (Nat.le_succ _) _ _ _ _ _ _ _ _ _⟩
set_option maxRecDepth 100000 in
set_option maxHeartbeats 2000000 in
theorem clean_23 (vn vs : Value) (a b c d e f : Int) (ns : List Int) (ss : List ByteArray) (w : World) (hN : IntsAt w vn ns) (hS : StrsAt w vs ss) :
    Calls Try.prog 25 #[.agg #[.int .i64 (23 : Int), vn, vs, .int .i64 a, .int .i64 b, .int .i64 c, .int .i64 d, .int .i64 e, .int .i64 f]] w fun e' w' => ∃ vn' vs', e' = .returned (.agg (argV 23 vn' vs' 0 0 0 0 0 0)) ∧ NRow w w' vn ns vn' [] ∧ SRow w w' vs ss vs' (someL ss 1) ∧ Below w.heap.size w w' := by
  obtain ⟨An, cn, rfl, -⟩ := id hN
  obtain ⟨As, cs, rfl, -⟩ := id hS
  have HN := hide (And.intro hN hS); clear hN hS
  go_enter Try.func25, Try.ntmps25
  go_wp2_with fail
  have hX := ClX.new w #[.int .i64 (23 : Int), .slice An ns.length cn, .slice As ss.length cs, .int .i64 a, .int .i64 b, .int .i64 c, .int .i64 d, .int .i64 e, .int .i64 f] (argV 23 (nilV) nilV 0 0 0 0 0 0)
  have HX := hide hX; clear hX
  refine (some_any _ ss 1 _ ((unhide HN).2.below (unhide HX).b) (by omega)).mono ?_
  rintro e5 w5 ⟨v5, rfl, hO5, hb5⟩
  have hO6 : OwnT w5 (w.heap.size + 1 + 1 + 1) v5 (someL ss 1) := row_mono hO5 (unhide HX).s.lt
  have H5 := hide (And.intro ((unhide HX).above hb5) (And.intro hO6 True.intro)); clear HX hO6 hO5 hb5
  obtain ⟨A5, c5, rfl, -⟩ := id (own_strs (unhide H5).2.1)
  have k1 := (unhide H5).1.s.cell 2; have kf1 := (unhide H5).1.s.frozen 2
  simp only [argV, List.getElem?_toArray, List.getElem?_cons_zero, List.getElem?_cons_succ] at k1
  go_upto_region 38 with fail
  have hX8 : ClX w (w5.setCell ⟨w.heap.size + 1 + 1, 2, none⟩ (.slice A5 (someL ss 1).length c5)) #[.int .i64 (23 : Int), .slice An ns.length cn, .slice As ss.length cs, .int .i64 a, .int .i64 b, .int .i64 c, .int .i64 d, .int .i64 e, .int .i64 f] (argV 23 nilV (.slice A5 (someL ss 1).length c5) 0 0 0 0 0 0) := (unhide H5).1.set 2 _
  have hO8 : OwnT (w5.setCell ⟨w.heap.size + 1 + 1, 2, none⟩ (.slice A5 (someL ss 1).length c5)) (w.heap.size + 1 + 1 + 1) (.slice A5 (someL ss 1).length c5) (someL ss 1) := row_far (unhide H5).2.1 (Nat.lt_succ_self _)
  have H4 := hide (And.intro hX8 (And.intro hO8 True.intro))
  clear hX8 hO8 H5 k1 kf1
  generalize w5.setCell ⟨w.heap.size + 1 + 1, 2, none⟩ (.slice A5 (someL ss 1).length c5) = wb at *
  have m0 := (unhide H4).1.s.cell 0; have m1 := (unhide H4).1.s.cell 1; have m2 := (unhide H4).1.s.cell 2; have m3 := (unhide H4).1.s.cell 3; have m4 := (unhide H4).1.s.cell 4; have m5 := (unhide H4).1.s.cell 5; have m6 := (unhide H4).1.s.cell 6; have m7 := (unhide H4).1.s.cell 7; have m8 := (unhide H4).1.s.cell 8
  have r0 := (unhide H4).1.r.cell 0; have f0 := (unhide H4).1.r.frozen 0; have r1 := (unhide H4).1.r.cell 1; have f1 := (unhide H4).1.r.frozen 1; have r2 := (unhide H4).1.r.cell 2; have f2 := (unhide H4).1.r.frozen 2; have r3 := (unhide H4).1.r.cell 3; have f3 := (unhide H4).1.r.frozen 3; have r4 := (unhide H4).1.r.cell 4; have f4 := (unhide H4).1.r.frozen 4; have r5 := (unhide H4).1.r.cell 5; have f5 := (unhide H4).1.r.frozen 5; have r6 := (unhide H4).1.r.cell 6; have f6 := (unhide H4).1.r.frozen 6; have r7 := (unhide H4).1.r.cell 7; have f7 := (unhide H4).1.r.frozen 7; have r8 := (unhide H4).1.r.cell 8; have f8 := (unhide H4).1.r.frozen 8
  simp only [argV, List.getElem?_toArray, List.getElem?_cons_zero, List.getElem?_cons_succ] at m0 r0 m1 r1 m2 r2 m3 r3 m4 r4 m5 r5 m6 r6 m7 r7 m8 r8
  go_wp2_with fail
  (try simp only [Exit.inBlock, Exit.then])
  refine bodyPost_ret (results_cell_row rfl _ _ (w.heap.size + 1) _ _ (0, 0) _ rfl (blk9_put (unhide H4).1.r _ _ _ _ _ _ _ _ _) Try.underlying52 rfl (by kernel_rfl)) rfl ?_
  exact ⟨_, _, rfl, .inr (World.ownsRow_nil _ _ _ _), .inr (ow_t9 (unhide H4).2.1 _ _ _ _ _ _ _ _ _), below9_put (unhide H4).1.b (Nat.le_succ _) _ _ _ _ _ _ _ _ _⟩
set_option maxRecDepth 100000 in
set_option maxHeartbeats 2000000 in
theorem clean_24 (vn vs : Value) (a b c d e f : Int) (ns : List Int) (ss : List ByteArray) (w : World) (hN : IntsAt w vn ns) (hS : StrsAt w vs ss) :
    Calls Try.prog 25 #[.agg #[.int .i64 (24 : Int), vn, vs, .int .i64 a, .int .i64 b, .int .i64 c, .int .i64 d, .int .i64 e, .int .i64 f]] w fun e' w' => ∃ vn' vs', e' = .returned (.agg (argV 24 vn' vs' 0 0 0 0 0 0)) ∧ NRow w w' vn ns vn' (fewL ns 1) ∧ SRow w w' vs ss vs' [] ∧ Below w.heap.size w w' := by
  obtain ⟨An, cn, rfl, -⟩ := id hN
  obtain ⟨As, cs, rfl, -⟩ := id hS
  have HN := hide (And.intro hN hS); clear hN hS
  go_enter Try.func25, Try.ntmps25
  go_wp2_with fail
  have hX := ClX.new w #[.int .i64 (24 : Int), .slice An ns.length cn, .slice As ss.length cs, .int .i64 a, .int .i64 b, .int .i64 c, .int .i64 d, .int .i64 e, .int .i64 f] (argV 24 (nilV) nilV 0 0 0 0 0 0)
  have HX := hide hX; clear hX
  refine (few_any _ ns 1 _ ((unhide HN).1.below (unhide HX).b) (by omega)).mono ?_
  rintro e1 w1 ⟨v1, rfl, hO1, hb1⟩
  have hO2 : OwnI w1 (w.heap.size + 1 + 1 + 1) v1 (fewL ns 1) := row_mono hO1 (unhide HX).s.lt
  have H1 := hide (And.intro ((unhide HX).above hb1) hO2); clear HX hO2 hO1 hb1
  obtain ⟨A1, c1, rfl, -⟩ := id (unhide H1).2.ints
  have k1 := (unhide H1).1.s.cell 1; have kf1 := (unhide H1).1.s.frozen 1
  simp only [argV, List.getElem?_toArray, List.getElem?_cons_zero, List.getElem?_cons_succ] at k1
  go_upto_region 38 with fail
  have hX4 : ClX w (w1.setCell ⟨w.heap.size + 1 + 1, 1, none⟩ (.slice A1 (fewL ns 1).length c1)) #[.int .i64 (24 : Int), .slice An ns.length cn, .slice As ss.length cs, .int .i64 a, .int .i64 b, .int .i64 c, .int .i64 d, .int .i64 e, .int .i64 f] (argV 24 (.slice A1 (fewL ns 1).length c1) nilV 0 0 0 0 0 0) := (unhide H1).1.set 1 _
  have hO4 : OwnI (w1.setCell ⟨w.heap.size + 1 + 1, 1, none⟩ (.slice A1 (fewL ns 1).length c1)) (w.heap.size + 1 + 1 + 1) (.slice A1 (fewL ns 1).length c1) (fewL ns 1) := row_far (unhide H1).2 (Nat.lt_succ_self _)
  have H4 := hide (And.intro hX4 hO4)
  clear hX4 hO4 H1 k1 kf1
  generalize w1.setCell ⟨w.heap.size + 1 + 1, 1, none⟩ (.slice A1 (fewL ns 1).length c1) = wb at *
  have m0 := (unhide H4).1.s.cell 0; have m1 := (unhide H4).1.s.cell 1; have m2 := (unhide H4).1.s.cell 2; have m3 := (unhide H4).1.s.cell 3; have m4 := (unhide H4).1.s.cell 4; have m5 := (unhide H4).1.s.cell 5; have m6 := (unhide H4).1.s.cell 6; have m7 := (unhide H4).1.s.cell 7; have m8 := (unhide H4).1.s.cell 8
  have r0 := (unhide H4).1.r.cell 0; have f0 := (unhide H4).1.r.frozen 0; have r1 := (unhide H4).1.r.cell 1; have f1 := (unhide H4).1.r.frozen 1; have r2 := (unhide H4).1.r.cell 2; have f2 := (unhide H4).1.r.frozen 2; have r3 := (unhide H4).1.r.cell 3; have f3 := (unhide H4).1.r.frozen 3; have r4 := (unhide H4).1.r.cell 4; have f4 := (unhide H4).1.r.frozen 4; have r5 := (unhide H4).1.r.cell 5; have f5 := (unhide H4).1.r.frozen 5; have r6 := (unhide H4).1.r.cell 6; have f6 := (unhide H4).1.r.frozen 6; have r7 := (unhide H4).1.r.cell 7; have f7 := (unhide H4).1.r.frozen 7; have r8 := (unhide H4).1.r.cell 8; have f8 := (unhide H4).1.r.frozen 8
  simp only [argV, List.getElem?_toArray, List.getElem?_cons_zero, List.getElem?_cons_succ] at m0 r0 m1 r1 m2 r2 m3 r3 m4 r4 m5 r5 m6 r6 m7 r7 m8 r8
  go_wp2_with fail
  (try simp only [Exit.inBlock, Exit.then])
  refine bodyPost_ret (results_cell_row rfl _ _ (w.heap.size + 1) _ _ (0, 0) _ rfl (blk9_put (unhide H4).1.r _ _ _ _ _ _ _ _ _) Try.underlying52 rfl (by kernel_rfl)) rfl ?_
  exact ⟨_, _, rfl, .inr (ow_i9 (unhide H4).2 _ _ _ _ _ _ _ _ _), .inr (World.ownsRow_nil _ _ _ _), below9_put (unhide H4).1.b (Nat.le_succ _) _ _ _ _ _ _ _ _ _⟩
set_option maxRecDepth 100000 in
set_option maxHeartbeats 2000000 in
theorem clean_25 (vn vs : Value) (a b c d e f : Int) (ns : List Int) (ss : List ByteArray) (w : World) (hN : IntsAt w vn ns) (hS : StrsAt w vs ss) :
    Calls Try.prog 25 #[.agg #[.int .i64 (25 : Int), vn, vs, .int .i64 a, .int .i64 b, .int .i64 c, .int .i64 d, .int .i64 e, .int .i64 f]] w fun e' w' => ∃ vn' vs', e' = .returned (.agg (argV 25 vn' vs' 0 0 0 0 0 0)) ∧ NRow w w' vn ns vn' [] ∧ SRow w w' vs ss vs' [] ∧ Below w.heap.size w w' := by
  obtain ⟨An, cn, rfl, -⟩ := id hN
  obtain ⟨As, cs, rfl, -⟩ := id hS
  have HN := hide (And.intro hN hS); clear hN hS
  go_enter Try.func25, Try.ntmps25
  go_wp2_with fail
  (try simp only [Exit.inBlock, Exit.then])
  refine bodyPost_ret (results_cell_row rfl _ _ (w.heap.size + 1) _ _ (0, 0) _ rfl (cl_mid w _ _ _) Try.underlying52 rfl (by kernel_rfl)) rfl ?_
  exact ⟨_, _, rfl, .inr (World.ownsRow_nil _ _ _ _), .inr (World.ownsRow_nil _ _ _ _), cl_below3 w _ _ _⟩
set_option maxRecDepth 100000 in
set_option maxHeartbeats 2000000 in
theorem clean_26 (vn vs : Value) (a b c d e f : Int) (ns : List Int) (ss : List ByteArray) (w : World) (hN : IntsAt w vn ns) (hS : StrsAt w vs ss) :
    Calls Try.prog 25 #[.agg #[.int .i64 (26 : Int), vn, vs, .int .i64 a, .int .i64 b, .int .i64 c, .int .i64 d, .int .i64 e, .int .i64 f]] w fun e' w' => ∃ vn' vs', e' = .returned (.agg (argV 26 vn' vs' 0 0 0 0 0 0)) ∧ NRow w w' vn ns vn' [] ∧ SRow w w' vs ss vs' [] ∧ Below w.heap.size w w' := by
  obtain ⟨An, cn, rfl, -⟩ := id hN
  obtain ⟨As, cs, rfl, -⟩ := id hS
  have HN := hide (And.intro hN hS); clear hN hS
  go_enter Try.func25, Try.ntmps25
  go_wp2_with fail
  (try simp only [Exit.inBlock, Exit.then])
  refine bodyPost_ret (results_cell_row rfl _ _ (w.heap.size + 1) _ _ (0, 0) _ rfl (cl_mid w _ _ _) Try.underlying52 rfl (by kernel_rfl)) rfl ?_
  exact ⟨_, _, rfl, .inr (World.ownsRow_nil _ _ _ _), .inr (World.ownsRow_nil _ _ _ _), cl_below3 w _ _ _⟩
set_option maxRecDepth 100000 in
set_option maxHeartbeats 2000000 in
theorem clean_27 (vn vs : Value) (a b c d e f : Int) (ns : List Int) (ss : List ByteArray) (w : World) (hN : IntsAt w vn ns) (hS : StrsAt w vs ss) :
    Calls Try.prog 25 #[.agg #[.int .i64 (27 : Int), vn, vs, .int .i64 a, .int .i64 b, .int .i64 c, .int .i64 d, .int .i64 e, .int .i64 f]] w fun e' w' => ∃ vn' vs', e' = .returned (.agg (argV 27 vn' vs' 0 0 0 0 0 0)) ∧ NRow w w' vn ns vn' [] ∧ SRow w w' vs ss vs' [] ∧ Below w.heap.size w w' := by
  obtain ⟨An, cn, rfl, -⟩ := id hN
  obtain ⟨As, cs, rfl, -⟩ := id hS
  have HN := hide (And.intro hN hS); clear hN hS
  go_enter Try.func25, Try.ntmps25
  go_wp2_with fail
  (try simp only [Exit.inBlock, Exit.then])
  refine bodyPost_ret (results_cell_row rfl _ _ (w.heap.size + 1) _ _ (0, 0) _ rfl (cl_mid w _ _ _) Try.underlying52 rfl (by kernel_rfl)) rfl ?_
  exact ⟨_, _, rfl, .inr (World.ownsRow_nil _ _ _ _), .inr (World.ownsRow_nil _ _ _ _), cl_below3 w _ _ _⟩
set_option maxRecDepth 100000 in
set_option maxHeartbeats 2000000 in
theorem clean_28 (vn vs : Value) (a b c d e f : Int) (ns : List Int) (ss : List ByteArray) (w : World) (hN : IntsAt w vn ns) (hS : StrsAt w vs ss) :
    Calls Try.prog 25 #[.agg #[.int .i64 (28 : Int), vn, vs, .int .i64 a, .int .i64 b, .int .i64 c, .int .i64 d, .int .i64 e, .int .i64 f]] w fun e' w' => ∃ vn' vs', e' = .returned (.agg (argV 28 vn' vs' 0 0 0 0 0 0)) ∧ NRow w w' vn ns vn' [] ∧ SRow w w' vs ss vs' [] ∧ Below w.heap.size w w' := by
  obtain ⟨An, cn, rfl, -⟩ := id hN
  obtain ⟨As, cs, rfl, -⟩ := id hS
  have HN := hide (And.intro hN hS); clear hN hS
  go_enter Try.func25, Try.ntmps25
  go_wp2_with fail
  (try simp only [Exit.inBlock, Exit.then])
  refine bodyPost_ret (results_cell_row rfl _ _ (w.heap.size + 1) _ _ (0, 0) _ rfl (cl_mid w _ _ _) Try.underlying52 rfl (by kernel_rfl)) rfl ?_
  exact ⟨_, _, rfl, .inr (World.ownsRow_nil _ _ _ _), .inr (World.ownsRow_nil _ _ _ _), cl_below3 w _ _ _⟩
set_option maxRecDepth 100000 in
set_option maxHeartbeats 2000000 in
theorem clean_29 (vn vs : Value) (a b c d e f : Int) (ns : List Int) (ss : List ByteArray) (w : World) (hN : IntsAt w vn ns) (hS : StrsAt w vs ss) :
    Calls Try.prog 25 #[.agg #[.int .i64 (29 : Int), vn, vs, .int .i64 a, .int .i64 b, .int .i64 c, .int .i64 d, .int .i64 e, .int .i64 f]] w fun e' w' => ∃ vn' vs', e' = .returned (.agg (argV 29 vn' vs' 0 0 0 0 0 0)) ∧ NRow w w' vn ns vn' [] ∧ SRow w w' vs ss vs' [] ∧ Below w.heap.size w w' := by
  obtain ⟨An, cn, rfl, -⟩ := id hN
  obtain ⟨As, cs, rfl, -⟩ := id hS
  have HN := hide (And.intro hN hS); clear hN hS
  go_enter Try.func25, Try.ntmps25
  go_wp2_with fail
  (try simp only [Exit.inBlock, Exit.then])
  refine bodyPost_ret (results_cell_row rfl _ _ (w.heap.size + 1) _ _ (0, 0) _ rfl (cl_mid w _ _ _) Try.underlying52 rfl (by kernel_rfl)) rfl ?_
  exact ⟨_, _, rfl, .inr (World.ownsRow_nil _ _ _ _), .inr (World.ownsRow_nil _ _ _ _), cl_below3 w _ _ _⟩
set_option maxRecDepth 100000 in
set_option maxHeartbeats 2000000 in
theorem clean_30 (vn vs : Value) (a b c d e f : Int) (ns : List Int) (ss : List ByteArray) (w : World) (hN : IntsAt w vn ns) (hS : StrsAt w vs ss) :
    Calls Try.prog 25 #[.agg #[.int .i64 (30 : Int), vn, vs, .int .i64 a, .int .i64 b, .int .i64 c, .int .i64 d, .int .i64 e, .int .i64 f]] w fun e' w' => ∃ vn' vs', e' = .returned (.agg (argV 30 vn' vs' 0 0 0 0 0 0)) ∧ NRow w w' vn ns vn' (fewL ns 1) ∧ SRow w w' vs ss vs' (someL ss 2) ∧ Below w.heap.size w w' := by
  obtain ⟨An, cn, rfl, -⟩ := id hN
  obtain ⟨As, cs, rfl, -⟩ := id hS
  have HN := hide (And.intro hN hS); clear hN hS
  go_enter Try.func25, Try.ntmps25
  go_wp2_with fail
  have hX := ClX.new w #[.int .i64 (30 : Int), .slice An ns.length cn, .slice As ss.length cs, .int .i64 a, .int .i64 b, .int .i64 c, .int .i64 d, .int .i64 e, .int .i64 f] (argV 30 (nilV) nilV 0 0 0 0 0 0)
  have HX := hide hX; clear hX
  refine (few_any _ ns 1 _ ((unhide HN).1.below (unhide HX).b) (by omega)).mono ?_
  rintro e1 w1 ⟨v1, rfl, hO1, hb1⟩
  have hO2 : OwnI w1 (w.heap.size + 1 + 1 + 1) v1 (fewL ns 1) := row_mono hO1 (unhide HX).s.lt
  have H1 := hide (And.intro ((unhide HX).above hb1) hO2); clear HX hO2 hO1 hb1
  obtain ⟨A1, c1, rfl, -⟩ := id (unhide H1).2.ints
  have k1 := (unhide H1).1.s.cell 1; have kf1 := (unhide H1).1.s.frozen 1
  simp only [argV, List.getElem?_toArray, List.getElem?_cons_zero, List.getElem?_cons_succ] at k1
  have j2 := (unhide H1).1.x.cell 2
  simp only [List.getElem?_toArray, List.getElem?_cons_zero, List.getElem?_cons_succ] at j2
  go_upto_region 37 with fail
  have hX4 : ClX w (w1.setCell ⟨w.heap.size + 1 + 1, 1, none⟩ (.slice A1 (fewL ns 1).length c1)) #[.int .i64 (30 : Int), .slice An ns.length cn, .slice As ss.length cs, .int .i64 a, .int .i64 b, .int .i64 c, .int .i64 d, .int .i64 e, .int .i64 f] (argV 30 (.slice A1 (fewL ns 1).length c1) nilV 0 0 0 0 0 0) := (unhide H1).1.set 1 _
  have hO4 : OwnI (w1.setCell ⟨w.heap.size + 1 + 1, 1, none⟩ (.slice A1 (fewL ns 1).length c1)) (w.heap.size + 1 + 1 + 1) (.slice A1 (fewL ns 1).length c1) (fewL ns 1) := row_far (unhide H1).2 (Nat.lt_succ_self _)
  have H4 := hide (And.intro hX4 hO4)
  clear hX4 hO4 H1 k1 kf1 j2
  generalize w1.setCell ⟨w.heap.size + 1 + 1, 1, none⟩ (.slice A1 (fewL ns 1).length c1) = wb at *
  have j2 := (unhide H4).1.x.cell 2
  simp only [List.getElem?_toArray, List.getElem?_cons_zero, List.getElem?_cons_succ] at j2
  go_wp2_with fail
  refine (some_any _ ss 2 _ ((unhide HN).2.below (unhide H4).1.b) (by omega)).mono ?_
  rintro e5 w5 ⟨v5, rfl, hO5, hb5⟩
  have hO6 : OwnT w5 (w.heap.size + 1 + 1 + 1) v5 (someL ss 2) := row_mono hO5 (unhide H4).1.s.lt
  have hO7 : OwnI w5 (w.heap.size + 1 + 1 + 1) (.slice A1 (fewL ns 1).length c1) (fewL ns 1) := row_low (unhide H4).2 (fun q hq => (World.ownsRow.lt (unhide H4).2 q hq).2) hb5
  have H5 := hide (And.intro ((unhide H4).1.above hb5) (And.intro hO6 hO7)); clear H4 hO7 hO6 hO5 hb5
  obtain ⟨A5, c5, rfl, -⟩ := id (own_strs (unhide H5).2.1)
  have k1 := (unhide H5).1.s.cell 2; have kf1 := (unhide H5).1.s.frozen 2
  simp only [argV, List.getElem?_toArray, List.getElem?_cons_zero, List.getElem?_cons_succ] at k1
  go_upto_region 38 with fail
  have hX8 : ClX w (w5.setCell ⟨w.heap.size + 1 + 1, 2, none⟩ (.slice A5 (someL ss 2).length c5)) #[.int .i64 (30 : Int), .slice An ns.length cn, .slice As ss.length cs, .int .i64 a, .int .i64 b, .int .i64 c, .int .i64 d, .int .i64 e, .int .i64 f] (argV 30 (.slice A1 (fewL ns 1).length c1) (.slice A5 (someL ss 2).length c5) 0 0 0 0 0 0) := (unhide H5).1.set 2 _
  have hO8 : OwnT (w5.setCell ⟨w.heap.size + 1 + 1, 2, none⟩ (.slice A5 (someL ss 2).length c5)) (w.heap.size + 1 + 1 + 1) (.slice A5 (someL ss 2).length c5) (someL ss 2) := row_far (unhide H5).2.1 (Nat.lt_succ_self _)
  have hO9 : OwnI (w5.setCell ⟨w.heap.size + 1 + 1, 2, none⟩ (.slice A5 (someL ss 2).length c5)) (w.heap.size + 1 + 1 + 1) (.slice A1 (fewL ns 1).length c1) (fewL ns 1) := row_far (unhide H5).2.2 (Nat.lt_succ_self _)
  have H4 := hide (And.intro hX8 (And.intro hO8 hO9))
  clear hX8 hO8 hO9 H5 k1 kf1
  generalize w5.setCell ⟨w.heap.size + 1 + 1, 2, none⟩ (.slice A5 (someL ss 2).length c5) = wb at *
  have m0 := (unhide H4).1.s.cell 0; have m1 := (unhide H4).1.s.cell 1; have m2 := (unhide H4).1.s.cell 2; have m3 := (unhide H4).1.s.cell 3; have m4 := (unhide H4).1.s.cell 4; have m5 := (unhide H4).1.s.cell 5; have m6 := (unhide H4).1.s.cell 6; have m7 := (unhide H4).1.s.cell 7; have m8 := (unhide H4).1.s.cell 8
  have r0 := (unhide H4).1.r.cell 0; have f0 := (unhide H4).1.r.frozen 0; have r1 := (unhide H4).1.r.cell 1; have f1 := (unhide H4).1.r.frozen 1; have r2 := (unhide H4).1.r.cell 2; have f2 := (unhide H4).1.r.frozen 2; have r3 := (unhide H4).1.r.cell 3; have f3 := (unhide H4).1.r.frozen 3; have r4 := (unhide H4).1.r.cell 4; have f4 := (unhide H4).1.r.frozen 4; have r5 := (unhide H4).1.r.cell 5; have f5 := (unhide H4).1.r.frozen 5; have r6 := (unhide H4).1.r.cell 6; have f6 := (unhide H4).1.r.frozen 6; have r7 := (unhide H4).1.r.cell 7; have f7 := (unhide H4).1.r.frozen 7; have r8 := (unhide H4).1.r.cell 8; have f8 := (unhide H4).1.r.frozen 8
  simp only [argV, List.getElem?_toArray, List.getElem?_cons_zero, List.getElem?_cons_succ] at m0 r0 m1 r1 m2 r2 m3 r3 m4 r4 m5 r5 m6 r6 m7 r7 m8 r8
  go_wp2_with fail
  (try simp only [Exit.inBlock, Exit.then])
  refine bodyPost_ret (results_cell_row rfl _ _ (w.heap.size + 1) _ _ (0, 0) _ rfl (blk9_put (unhide H4).1.r _ _ _ _ _ _ _ _ _) Try.underlying52 rfl (by kernel_rfl)) rfl ?_
  exact ⟨_, _, rfl, .inr (ow_i9 (unhide H4).2.2 _ _ _ _ _ _ _ _ _), .inr (ow_t9 (unhide H4).2.1 _ _ _ _ _ _ _ _ _), below9_put (unhide H4).1.b (Nat.le_succ _) _ _ _ _ _ _ _ _ _⟩
set_option maxRecDepth 100000 in
set_option maxHeartbeats 2000000 in
theorem clean_31 (vn vs : Value) (a b c d e f : Int) (ns : List Int) (ss : List ByteArray) (w : World) (hN : IntsAt w vn ns) (hS : StrsAt w vs ss) :
    Calls Try.prog 25 #[.agg #[.int .i64 (31 : Int), vn, vs, .int .i64 a, .int .i64 b, .int .i64 c, .int .i64 d, .int .i64 e, .int .i64 f]] w fun e' w' => ∃ vn' vs', e' = .returned (.agg (argV 31 vn' vs' 0 0 0 0 0 0)) ∧ NRow w w' vn ns vn' [] ∧ SRow w w' vs ss vs' [] ∧ Below w.heap.size w w' := by
  obtain ⟨An, cn, rfl, -⟩ := id hN
  obtain ⟨As, cs, rfl, -⟩ := id hS
  have HN := hide (And.intro hN hS); clear hN hS
  go_enter Try.func25, Try.ntmps25
  go_wp2_with fail
  (try simp only [Exit.inBlock, Exit.then])
  refine bodyPost_ret (results_cell_row rfl _ _ (w.heap.size + 1) _ _ (0, 0) _ rfl (cl_mid w _ _ _) Try.underlying52 rfl (by kernel_rfl)) rfl ?_
  exact ⟨_, _, rfl, .inr (World.ownsRow_nil _ _ _ _), .inr (World.ownsRow_nil _ _ _ _), cl_below3 w _ _ _⟩
set_option maxRecDepth 100000 in
set_option maxHeartbeats 2000000 in
theorem clean_32 (vn vs : Value) (a b c d e f : Int) (ns : List Int) (ss : List ByteArray) (w : World) (hN : IntsAt w vn ns) (hS : StrsAt w vs ss) :
    Calls Try.prog 25 #[.agg #[.int .i64 (32 : Int), vn, vs, .int .i64 a, .int .i64 b, .int .i64 c, .int .i64 d, .int .i64 e, .int .i64 f]] w fun e' w' => ∃ vn' vs', e' = .returned (.agg (argV 32 vn' vs' 0 0 0 0 0 0)) ∧ NRow w w' vn ns vn' (fewL ns 1) ∧ SRow w w' vs ss vs' [] ∧ Below w.heap.size w w' := by
  obtain ⟨An, cn, rfl, -⟩ := id hN
  obtain ⟨As, cs, rfl, -⟩ := id hS
  have HN := hide (And.intro hN hS); clear hN hS
  go_enter Try.func25, Try.ntmps25
  go_wp2_with fail
  have hX := ClX.new w #[.int .i64 (32 : Int), .slice An ns.length cn, .slice As ss.length cs, .int .i64 a, .int .i64 b, .int .i64 c, .int .i64 d, .int .i64 e, .int .i64 f] (argV 32 (nilV) nilV 0 0 0 0 0 0)
  have HX := hide hX; clear hX
  refine (few_any _ ns 1 _ ((unhide HN).1.below (unhide HX).b) (by omega)).mono ?_
  rintro e1 w1 ⟨v1, rfl, hO1, hb1⟩
  have hO2 : OwnI w1 (w.heap.size + 1 + 1 + 1) v1 (fewL ns 1) := row_mono hO1 (unhide HX).s.lt
  have H1 := hide (And.intro ((unhide HX).above hb1) hO2); clear HX hO2 hO1 hb1
  obtain ⟨A1, c1, rfl, -⟩ := id (unhide H1).2.ints
  have k1 := (unhide H1).1.s.cell 1; have kf1 := (unhide H1).1.s.frozen 1
  simp only [argV, List.getElem?_toArray, List.getElem?_cons_zero, List.getElem?_cons_succ] at k1
  go_upto_region 38 with fail
  have hX4 : ClX w (w1.setCell ⟨w.heap.size + 1 + 1, 1, none⟩ (.slice A1 (fewL ns 1).length c1)) #[.int .i64 (32 : Int), .slice An ns.length cn, .slice As ss.length cs, .int .i64 a, .int .i64 b, .int .i64 c, .int .i64 d, .int .i64 e, .int .i64 f] (argV 32 (.slice A1 (fewL ns 1).length c1) nilV 0 0 0 0 0 0) := (unhide H1).1.set 1 _
  have hO4 : OwnI (w1.setCell ⟨w.heap.size + 1 + 1, 1, none⟩ (.slice A1 (fewL ns 1).length c1)) (w.heap.size + 1 + 1 + 1) (.slice A1 (fewL ns 1).length c1) (fewL ns 1) := row_far (unhide H1).2 (Nat.lt_succ_self _)
  have H4 := hide (And.intro hX4 hO4)
  clear hX4 hO4 H1 k1 kf1
  generalize w1.setCell ⟨w.heap.size + 1 + 1, 1, none⟩ (.slice A1 (fewL ns 1).length c1) = wb at *
  have m0 := (unhide H4).1.s.cell 0; have m1 := (unhide H4).1.s.cell 1; have m2 := (unhide H4).1.s.cell 2; have m3 := (unhide H4).1.s.cell 3; have m4 := (unhide H4).1.s.cell 4; have m5 := (unhide H4).1.s.cell 5; have m6 := (unhide H4).1.s.cell 6; have m7 := (unhide H4).1.s.cell 7; have m8 := (unhide H4).1.s.cell 8
  have r0 := (unhide H4).1.r.cell 0; have f0 := (unhide H4).1.r.frozen 0; have r1 := (unhide H4).1.r.cell 1; have f1 := (unhide H4).1.r.frozen 1; have r2 := (unhide H4).1.r.cell 2; have f2 := (unhide H4).1.r.frozen 2; have r3 := (unhide H4).1.r.cell 3; have f3 := (unhide H4).1.r.frozen 3; have r4 := (unhide H4).1.r.cell 4; have f4 := (unhide H4).1.r.frozen 4; have r5 := (unhide H4).1.r.cell 5; have f5 := (unhide H4).1.r.frozen 5; have r6 := (unhide H4).1.r.cell 6; have f6 := (unhide H4).1.r.frozen 6; have r7 := (unhide H4).1.r.cell 7; have f7 := (unhide H4).1.r.frozen 7; have r8 := (unhide H4).1.r.cell 8; have f8 := (unhide H4).1.r.frozen 8
  simp only [argV, List.getElem?_toArray, List.getElem?_cons_zero, List.getElem?_cons_succ] at m0 r0 m1 r1 m2 r2 m3 r3 m4 r4 m5 r5 m6 r6 m7 r7 m8 r8
  go_wp2_with fail
  (try simp only [Exit.inBlock, Exit.then])
  refine bodyPost_ret (results_cell_row rfl _ _ (w.heap.size + 1) _ _ (0, 0) _ rfl (blk9_put (unhide H4).1.r _ _ _ _ _ _ _ _ _) Try.underlying52 rfl (by kernel_rfl)) rfl ?_
  exact ⟨_, _, rfl, .inr (ow_i9 (unhide H4).2 _ _ _ _ _ _ _ _ _), .inr (World.ownsRow_nil _ _ _ _), below9_put (unhide H4).1.b (Nat.le_succ _) _ _ _ _ _ _ _ _ _⟩
set_option maxRecDepth 100000 in
set_option maxHeartbeats 2000000 in
theorem clean_33 (vn vs : Value) (a b c d e f : Int) (ns : List Int) (ss : List ByteArray) (w : World) (hN : IntsAt w vn ns) (hS : StrsAt w vs ss) :
    Calls Try.prog 25 #[.agg #[.int .i64 (33 : Int), vn, vs, .int .i64 a, .int .i64 b, .int .i64 c, .int .i64 d, .int .i64 e, .int .i64 f]] w fun e' w' => ∃ vn' vs', e' = .returned (.agg (argV 33 vn' vs' 0 0 0 0 0 0)) ∧ NRow w w' vn ns vn' (fewL ns 1) ∧ SRow w w' vs ss vs' [] ∧ Below w.heap.size w w' := by
  obtain ⟨An, cn, rfl, -⟩ := id hN
  obtain ⟨As, cs, rfl, -⟩ := id hS
  have HN := hide (And.intro hN hS); clear hN hS
  go_enter Try.func25, Try.ntmps25
  go_wp2_with fail
  have hX := ClX.new w #[.int .i64 (33 : Int), .slice An ns.length cn, .slice As ss.length cs, .int .i64 a, .int .i64 b, .int .i64 c, .int .i64 d, .int .i64 e, .int .i64 f] (argV 33 (nilV) nilV 0 0 0 0 0 0)
  have HX := hide hX; clear hX
  refine (few_any _ ns 1 _ ((unhide HN).1.below (unhide HX).b) (by omega)).mono ?_
  rintro e1 w1 ⟨v1, rfl, hO1, hb1⟩
  have hO2 : OwnI w1 (w.heap.size + 1 + 1 + 1) v1 (fewL ns 1) := row_mono hO1 (unhide HX).s.lt
  have H1 := hide (And.intro ((unhide HX).above hb1) hO2); clear HX hO2 hO1 hb1
  obtain ⟨A1, c1, rfl, -⟩ := id (unhide H1).2.ints
  have k1 := (unhide H1).1.s.cell 1; have kf1 := (unhide H1).1.s.frozen 1
  simp only [argV, List.getElem?_toArray, List.getElem?_cons_zero, List.getElem?_cons_succ] at k1
  go_upto_region 38 with fail
  have hX4 : ClX w (w1.setCell ⟨w.heap.size + 1 + 1, 1, none⟩ (.slice A1 (fewL ns 1).length c1)) #[.int .i64 (33 : Int), .slice An ns.length cn, .slice As ss.length cs, .int .i64 a, .int .i64 b, .int .i64 c, .int .i64 d, .int .i64 e, .int .i64 f] (argV 33 (.slice A1 (fewL ns 1).length c1) nilV 0 0 0 0 0 0) := (unhide H1).1.set 1 _
  have hO4 : OwnI (w1.setCell ⟨w.heap.size + 1 + 1, 1, none⟩ (.slice A1 (fewL ns 1).length c1)) (w.heap.size + 1 + 1 + 1) (.slice A1 (fewL ns 1).length c1) (fewL ns 1) := row_far (unhide H1).2 (Nat.lt_succ_self _)
  have H4 := hide (And.intro hX4 hO4)
  clear hX4 hO4 H1 k1 kf1
  generalize w1.setCell ⟨w.heap.size + 1 + 1, 1, none⟩ (.slice A1 (fewL ns 1).length c1) = wb at *
  have m0 := (unhide H4).1.s.cell 0; have m1 := (unhide H4).1.s.cell 1; have m2 := (unhide H4).1.s.cell 2; have m3 := (unhide H4).1.s.cell 3; have m4 := (unhide H4).1.s.cell 4; have m5 := (unhide H4).1.s.cell 5; have m6 := (unhide H4).1.s.cell 6; have m7 := (unhide H4).1.s.cell 7; have m8 := (unhide H4).1.s.cell 8
  have r0 := (unhide H4).1.r.cell 0; have f0 := (unhide H4).1.r.frozen 0; have r1 := (unhide H4).1.r.cell 1; have f1 := (unhide H4).1.r.frozen 1; have r2 := (unhide H4).1.r.cell 2; have f2 := (unhide H4).1.r.frozen 2; have r3 := (unhide H4).1.r.cell 3; have f3 := (unhide H4).1.r.frozen 3; have r4 := (unhide H4).1.r.cell 4; have f4 := (unhide H4).1.r.frozen 4; have r5 := (unhide H4).1.r.cell 5; have f5 := (unhide H4).1.r.frozen 5; have r6 := (unhide H4).1.r.cell 6; have f6 := (unhide H4).1.r.frozen 6; have r7 := (unhide H4).1.r.cell 7; have f7 := (unhide H4).1.r.frozen 7; have r8 := (unhide H4).1.r.cell 8; have f8 := (unhide H4).1.r.frozen 8
  simp only [argV, List.getElem?_toArray, List.getElem?_cons_zero, List.getElem?_cons_succ] at m0 r0 m1 r1 m2 r2 m3 r3 m4 r4 m5 r5 m6 r6 m7 r7 m8 r8
  go_wp2_with fail
  (try simp only [Exit.inBlock, Exit.then])
  refine bodyPost_ret (results_cell_row rfl _ _ (w.heap.size + 1) _ _ (0, 0) _ rfl (blk9_put (unhide H4).1.r _ _ _ _ _ _ _ _ _) Try.underlying52 rfl (by kernel_rfl)) rfl ?_
  exact ⟨_, _, rfl, .inr (ow_i9 (unhide H4).2 _ _ _ _ _ _ _ _ _), .inr (World.ownsRow_nil _ _ _ _), below9_put (unhide H4).1.b (Nat.le_succ _) _ _ _ _ _ _ _ _ _⟩
set_option maxRecDepth 100000 in
set_option maxHeartbeats 2000000 in
theorem clean_34 (vn vs : Value) (a b c d e f : Int) (ns : List Int) (ss : List ByteArray) (w : World) (hN : IntsAt w vn ns) (hS : StrsAt w vs ss) :
    Calls Try.prog 25 #[.agg #[.int .i64 (34 : Int), vn, vs, .int .i64 a, .int .i64 b, .int .i64 c, .int .i64 d, .int .i64 e, .int .i64 f]] w fun e' w' => ∃ vn' vs', e' = .returned (.agg (argV 34 vn' vs' 0 0 0 0 0 0)) ∧ NRow w w' vn ns vn' (fewL ns 1) ∧ SRow w w' vs ss vs' (someL ss 1) ∧ Below w.heap.size w w' := by
  obtain ⟨An, cn, rfl, -⟩ := id hN
  obtain ⟨As, cs, rfl, -⟩ := id hS
  have HN := hide (And.intro hN hS); clear hN hS
  go_enter Try.func25, Try.ntmps25
  go_wp2_with fail
  have hX := ClX.new w #[.int .i64 (34 : Int), .slice An ns.length cn, .slice As ss.length cs, .int .i64 a, .int .i64 b, .int .i64 c, .int .i64 d, .int .i64 e, .int .i64 f] (argV 34 (nilV) nilV 0 0 0 0 0 0)
  have HX := hide hX; clear hX
  refine (few_any _ ns 1 _ ((unhide HN).1.below (unhide HX).b) (by omega)).mono ?_
  rintro e1 w1 ⟨v1, rfl, hO1, hb1⟩
  have hO2 : OwnI w1 (w.heap.size + 1 + 1 + 1) v1 (fewL ns 1) := row_mono hO1 (unhide HX).s.lt
  have H1 := hide (And.intro ((unhide HX).above hb1) hO2); clear HX hO2 hO1 hb1
  obtain ⟨A1, c1, rfl, -⟩ := id (unhide H1).2.ints
  have k1 := (unhide H1).1.s.cell 1; have kf1 := (unhide H1).1.s.frozen 1
  simp only [argV, List.getElem?_toArray, List.getElem?_cons_zero, List.getElem?_cons_succ] at k1
  have j2 := (unhide H1).1.x.cell 2
  simp only [List.getElem?_toArray, List.getElem?_cons_zero, List.getElem?_cons_succ] at j2
  go_upto_region 33 with fail
  have hX4 : ClX w (w1.setCell ⟨w.heap.size + 1 + 1, 1, none⟩ (.slice A1 (fewL ns 1).length c1)) #[.int .i64 (34 : Int), .slice An ns.length cn, .slice As ss.length cs, .int .i64 a, .int .i64 b, .int .i64 c, .int .i64 d, .int .i64 e, .int .i64 f] (argV 34 (.slice A1 (fewL ns 1).length c1) nilV 0 0 0 0 0 0) := (unhide H1).1.set 1 _
  have hO4 : OwnI (w1.setCell ⟨w.heap.size + 1 + 1, 1, none⟩ (.slice A1 (fewL ns 1).length c1)) (w.heap.size + 1 + 1 + 1) (.slice A1 (fewL ns 1).length c1) (fewL ns 1) := row_far (unhide H1).2 (Nat.lt_succ_self _)
  have H4 := hide (And.intro hX4 hO4)
  clear hX4 hO4 H1 k1 kf1 j2
  generalize w1.setCell ⟨w.heap.size + 1 + 1, 1, none⟩ (.slice A1 (fewL ns 1).length c1) = wb at *
  have j2 := (unhide H4).1.x.cell 2
  simp only [List.getElem?_toArray, List.getElem?_cons_zero, List.getElem?_cons_succ] at j2
  go_wp2_with fail
  refine (some_any _ ss 1 _ ((unhide HN).2.below (unhide H4).1.b) (by omega)).mono ?_
  rintro e5 w5 ⟨v5, rfl, hO5, hb5⟩
  have hO6 : OwnT w5 (w.heap.size + 1 + 1 + 1) v5 (someL ss 1) := row_mono hO5 (unhide H4).1.s.lt
  have hO7 : OwnI w5 (w.heap.size + 1 + 1 + 1) (.slice A1 (fewL ns 1).length c1) (fewL ns 1) := row_low (unhide H4).2 (fun q hq => (World.ownsRow.lt (unhide H4).2 q hq).2) hb5
  have H5 := hide (And.intro ((unhide H4).1.above hb5) (And.intro hO6 hO7)); clear H4 hO7 hO6 hO5 hb5
  obtain ⟨A5, c5, rfl, -⟩ := id (own_strs (unhide H5).2.1)
  have k1 := (unhide H5).1.s.cell 2; have kf1 := (unhide H5).1.s.frozen 2
  simp only [argV, List.getElem?_toArray, List.getElem?_cons_zero, List.getElem?_cons_succ] at k1
  go_upto_region 38 with fail
  have hX8 : ClX w (w5.setCell ⟨w.heap.size + 1 + 1, 2, none⟩ (.slice A5 (someL ss 1).length c5)) #[.int .i64 (34 : Int), .slice An ns.length cn, .slice As ss.length cs, .int .i64 a, .int .i64 b, .int .i64 c, .int .i64 d, .int .i64 e, .int .i64 f] (argV 34 (.slice A1 (fewL ns 1).length c1) (.slice A5 (someL ss 1).length c5) 0 0 0 0 0 0) := (unhide H5).1.set 2 _
  have hO8 : OwnT (w5.setCell ⟨w.heap.size + 1 + 1, 2, none⟩ (.slice A5 (someL ss 1).length c5)) (w.heap.size + 1 + 1 + 1) (.slice A5 (someL ss 1).length c5) (someL ss 1) := row_far (unhide H5).2.1 (Nat.lt_succ_self _)
  have hO9 : OwnI (w5.setCell ⟨w.heap.size + 1 + 1, 2, none⟩ (.slice A5 (someL ss 1).length c5)) (w.heap.size + 1 + 1 + 1) (.slice A1 (fewL ns 1).length c1) (fewL ns 1) := row_far (unhide H5).2.2 (Nat.lt_succ_self _)
  have H4 := hide (And.intro hX8 (And.intro hO8 hO9))
  clear hX8 hO8 hO9 H5 k1 kf1
  generalize w5.setCell ⟨w.heap.size + 1 + 1, 2, none⟩ (.slice A5 (someL ss 1).length c5) = wb at *
  have m0 := (unhide H4).1.s.cell 0; have m1 := (unhide H4).1.s.cell 1; have m2 := (unhide H4).1.s.cell 2; have m3 := (unhide H4).1.s.cell 3; have m4 := (unhide H4).1.s.cell 4; have m5 := (unhide H4).1.s.cell 5; have m6 := (unhide H4).1.s.cell 6; have m7 := (unhide H4).1.s.cell 7; have m8 := (unhide H4).1.s.cell 8
  have r0 := (unhide H4).1.r.cell 0; have f0 := (unhide H4).1.r.frozen 0; have r1 := (unhide H4).1.r.cell 1; have f1 := (unhide H4).1.r.frozen 1; have r2 := (unhide H4).1.r.cell 2; have f2 := (unhide H4).1.r.frozen 2; have r3 := (unhide H4).1.r.cell 3; have f3 := (unhide H4).1.r.frozen 3; have r4 := (unhide H4).1.r.cell 4; have f4 := (unhide H4).1.r.frozen 4; have r5 := (unhide H4).1.r.cell 5; have f5 := (unhide H4).1.r.frozen 5; have r6 := (unhide H4).1.r.cell 6; have f6 := (unhide H4).1.r.frozen 6; have r7 := (unhide H4).1.r.cell 7; have f7 := (unhide H4).1.r.frozen 7; have r8 := (unhide H4).1.r.cell 8; have f8 := (unhide H4).1.r.frozen 8
  simp only [argV, List.getElem?_toArray, List.getElem?_cons_zero, List.getElem?_cons_succ] at m0 r0 m1 r1 m2 r2 m3 r3 m4 r4 m5 r5 m6 r6 m7 r7 m8 r8
  go_wp2_with fail
  (try simp only [Exit.inBlock, Exit.then])
  refine bodyPost_ret (results_cell_row rfl _ _ (w.heap.size + 1) _ _ (0, 0) _ rfl (blk9_put (unhide H4).1.r _ _ _ _ _ _ _ _ _) Try.underlying52 rfl (by kernel_rfl)) rfl ?_
  exact ⟨_, _, rfl, .inr (ow_i9 (unhide H4).2.2 _ _ _ _ _ _ _ _ _), .inr (ow_t9 (unhide H4).2.1 _ _ _ _ _ _ _ _ _), below9_put (unhide H4).1.b (Nat.le_succ _) _ _ _ _ _ _ _ _ _⟩
set_option maxRecDepth 100000 in
set_option maxHeartbeats 2000000 in
theorem clean_low (z : Int) (vn vs : Value) (a b c d e f : Int) (ns : List Int) (ss : List ByteArray) (w : World) (hz : z < 1) (hN : IntsAt w vn ns) (hS : StrsAt w vs ss) :
    Calls Try.prog 25 #[.agg #[.int .i64 z, vn, vs, .int .i64 a, .int .i64 b, .int .i64 c, .int .i64 d, .int .i64 e, .int .i64 f]] w fun e' w' => ∃ vn' vs', e' = .returned (.agg (argV 4 vn' vs' 0 0 0 0 0 0)) ∧ NRow w w' vn ns vn' [] ∧ SRow w w' vs ss vs' [] ∧ Below w.heap.size w w' := by
  obtain ⟨An, cn, rfl, -⟩ := id hN
  obtain ⟨As, cs, rfl, -⟩ := id hS
  have HN := hide (And.intro hN hS); clear hN hS
  go_enter Try.func25, Try.ntmps25
  go_wp2_with fail
  (try simp only [Exit.inBlock, Exit.then])
  refine bodyPost_ret (results_cell_row rfl _ _ (w.heap.size + 1) _ _ (0, 0) _ rfl (cl_mid w _ _ _) Try.underlying52 rfl (by kernel_rfl)) rfl ?_
  exact ⟨_, _, rfl, .inr (World.ownsRow_nil _ _ _ _), .inr (World.ownsRow_nil _ _ _ _), cl_below3 w _ _ _⟩
set_option maxRecDepth 100000 in
set_option maxHeartbeats 2000000 in
theorem clean_high (z : Int) (vn vs : Value) (a b c d e f : Int) (ns : List Int) (ss : List ByteArray) (w : World) (hz0 : ¬ z < 1) (hz : 34 < z) (hN : IntsAt w vn ns) (hS : StrsAt w vs ss) :
    Calls Try.prog 25 #[.agg #[.int .i64 z, vn, vs, .int .i64 a, .int .i64 b, .int .i64 c, .int .i64 d, .int .i64 e, .int .i64 f]] w fun e' w' => ∃ vn' vs', e' = .returned (.agg (argV 4 vn' vs' 0 0 0 0 0 0)) ∧ NRow w w' vn ns vn' [] ∧ SRow w w' vs ss vs' [] ∧ Below w.heap.size w w' := by
  obtain ⟨An, cn, rfl, -⟩ := id hN
  obtain ⟨As, cs, rfl, -⟩ := id hS
  have HN := hide (And.intro hN hS); clear hN hS
  go_enter Try.func25, Try.ntmps25
  go_wp2_with fail
  (try simp only [Exit.inBlock, Exit.then])
  refine bodyPost_ret (results_cell_row rfl _ _ (w.heap.size + 1) _ _ (0, 0) _ rfl (cl_mid w _ _ _) Try.underlying52 rfl (by kernel_rfl)) rfl ?_
  exact ⟨_, _, rfl, .inr (World.ownsRow_nil _ _ _ _), .inr (World.ownsRow_nil _ _ _ _), cl_below3 w _ _ _⟩
end Go.Proofs.Ytaomecinemmdgaa

/-
  CONTRACT of the document's row: the shapes of the steps.
-/
import Derived.Test.YtaomecinemmdgaaRows
import Derived.Laws.ResultCell
import Derived.Laws.Rows
import Derived.Test.YtaomecinemmdgaaGBase
import Derived.Test.YtaomecinemmdgaaSPlayT
set_option linter.unusedVariables false
set_option linter.unusedSimpArgs false
namespace Go.Proofs.Ytaomecinemmdgaa
open Go.RowKit Go.Lib
def rowV (f : ShapeR) : Value := .agg #[.string f.wd, .int .i64 (f.a : Int), .int .i64 (f.b : Int), .int .i64 (f.more : Int), .bool f.opts]
theorem results_row {fn : Func} {p : Tmp} (h : fn.results = #[.cell p 104]) (tmps : Array Value) (w : World) (g : Nat) (cs : Array Value) (hz : cs.size = 5) (hp : tmps.getD p undef = .pointer (some ⟨g, 0, none⟩)) (hB : Blk w g 104 cs) :
    (results fn tmps).run Try.prog w = .ok (.agg cs) w := by
  have h2 := run_loadVar_row (P := Try.prog) w g 104 104 cs (0, 0) _ hB Try.underlying104 rfl (by rw [hz]; kernel_rfl)
  have hp2 : tmps[p]?.getD undef = .pointer (some ⟨g, 0, none⟩) := by simpa using hp
  simp [results, h, hp2, asAddr, h2, Result.andThen]
theorem later_16 (w : World) : Calls Try.prog 79 #[.int .i64 16] w fun e w' => e = .returned (rowV (shapeAt 16)) ∧ Below w.heap.size w w' := by
  go_enter Try.func79, Try.ntmps79
  go_wp2_with fail
  (try simp only [Exit.inBlock, Exit.then])
  refine bodyPost_ret (results_row rfl _ _ w.heap.size _ rfl rfl (Blk.new _ _ _)) rfl ?_
  exact ⟨rfl, (Below.refl _ _).alloc (Nat.le_refl _) _⟩
theorem later_17 (w : World) : Calls Try.prog 79 #[.int .i64 17] w fun e w' => e = .returned (rowV (shapeAt 17)) ∧ Below w.heap.size w w' := by
  go_enter Try.func79, Try.ntmps79
  go_wp2_with fail
  (try simp only [Exit.inBlock, Exit.then])
  refine bodyPost_ret (results_row rfl _ _ w.heap.size _ rfl rfl (Blk.new _ _ _)) rfl ?_
  exact ⟨rfl, (Below.refl _ _).alloc (Nat.le_refl _) _⟩
theorem later_18 (w : World) : Calls Try.prog 79 #[.int .i64 18] w fun e w' => e = .returned (rowV (shapeAt 18)) ∧ Below w.heap.size w w' := by
  go_enter Try.func79, Try.ntmps79
  go_wp2_with fail
  (try simp only [Exit.inBlock, Exit.then])
  refine bodyPost_ret (results_row rfl _ _ w.heap.size _ rfl rfl (Blk.new _ _ _)) rfl ?_
  exact ⟨rfl, (Below.refl _ _).alloc (Nat.le_refl _) _⟩
theorem later_19 (w : World) : Calls Try.prog 79 #[.int .i64 19] w fun e w' => e = .returned (rowV (shapeAt 19)) ∧ Below w.heap.size w w' := by
  go_enter Try.func79, Try.ntmps79
  go_wp2_with fail
  (try simp only [Exit.inBlock, Exit.then])
  refine bodyPost_ret (results_row rfl _ _ w.heap.size _ rfl rfl (Blk.new _ _ _)) rfl ?_
  exact ⟨rfl, (Below.refl _ _).alloc (Nat.le_refl _) _⟩
theorem later_20 (w : World) : Calls Try.prog 79 #[.int .i64 20] w fun e w' => e = .returned (rowV (shapeAt 20)) ∧ Below w.heap.size w w' := by
  go_enter Try.func79, Try.ntmps79
  go_wp2_with fail
  (try simp only [Exit.inBlock, Exit.then])
  refine bodyPost_ret (results_row rfl _ _ w.heap.size _ rfl rfl (Blk.new _ _ _)) rfl ?_
  exact ⟨rfl, (Below.refl _ _).alloc (Nat.le_refl _) _⟩
theorem later_21 (w : World) : Calls Try.prog 79 #[.int .i64 21] w fun e w' => e = .returned (rowV (shapeAt 21)) ∧ Below w.heap.size w w' := by
  go_enter Try.func79, Try.ntmps79
  go_wp2_with fail
  (try simp only [Exit.inBlock, Exit.then])
  refine bodyPost_ret (results_row rfl _ _ w.heap.size _ rfl rfl (Blk.new _ _ _)) rfl ?_
  exact ⟨rfl, (Below.refl _ _).alloc (Nat.le_refl _) _⟩
theorem later_22 (w : World) : Calls Try.prog 79 #[.int .i64 22] w fun e w' => e = .returned (rowV (shapeAt 22)) ∧ Below w.heap.size w w' := by
  go_enter Try.func79, Try.ntmps79
  go_wp2_with fail
  (try simp only [Exit.inBlock, Exit.then])
  refine bodyPost_ret (results_row rfl _ _ w.heap.size _ rfl rfl (Blk.new _ _ _)) rfl ?_
  exact ⟨rfl, (Below.refl _ _).alloc (Nat.le_refl _) _⟩
theorem later_23 (w : World) : Calls Try.prog 79 #[.int .i64 23] w fun e w' => e = .returned (rowV (shapeAt 23)) ∧ Below w.heap.size w w' := by
  go_enter Try.func79, Try.ntmps79
  go_wp2_with fail
  (try simp only [Exit.inBlock, Exit.then])
  refine bodyPost_ret (results_row rfl _ _ w.heap.size _ rfl rfl (Blk.new _ _ _)) rfl ?_
  exact ⟨rfl, (Below.refl _ _).alloc (Nat.le_refl _) _⟩
theorem later_24 (w : World) : Calls Try.prog 79 #[.int .i64 24] w fun e w' => e = .returned (rowV (shapeAt 24)) ∧ Below w.heap.size w w' := by
  go_enter Try.func79, Try.ntmps79
  go_wp2_with fail
  (try simp only [Exit.inBlock, Exit.then])
  refine bodyPost_ret (results_row rfl _ _ w.heap.size _ rfl rfl (Blk.new _ _ _)) rfl ?_
  exact ⟨rfl, (Below.refl _ _).alloc (Nat.le_refl _) _⟩
theorem later_25 (w : World) : Calls Try.prog 79 #[.int .i64 25] w fun e w' => e = .returned (rowV (shapeAt 25)) ∧ Below w.heap.size w w' := by
  go_enter Try.func79, Try.ntmps79
  go_wp2_with fail
  (try simp only [Exit.inBlock, Exit.then])
  refine bodyPost_ret (results_row rfl _ _ w.heap.size _ rfl rfl (Blk.new _ _ _)) rfl ?_
  exact ⟨rfl, (Below.refl _ _).alloc (Nat.le_refl _) _⟩
theorem later_26 (w : World) : Calls Try.prog 79 #[.int .i64 26] w fun e w' => e = .returned (rowV (shapeAt 26)) ∧ Below w.heap.size w w' := by
  go_enter Try.func79, Try.ntmps79
  go_wp2_with fail
  (try simp only [Exit.inBlock, Exit.then])
  refine bodyPost_ret (results_row rfl _ _ w.heap.size _ rfl rfl (Blk.new _ _ _)) rfl ?_
  exact ⟨rfl, (Below.refl _ _).alloc (Nat.le_refl _) _⟩
theorem later_27 (w : World) : Calls Try.prog 79 #[.int .i64 27] w fun e w' => e = .returned (rowV (shapeAt 27)) ∧ Below w.heap.size w w' := by
  go_enter Try.func79, Try.ntmps79
  go_wp2_with fail
  (try simp only [Exit.inBlock, Exit.then])
  refine bodyPost_ret (results_row rfl _ _ w.heap.size _ rfl rfl (Blk.new _ _ _)) rfl ?_
  exact ⟨rfl, (Below.refl _ _).alloc (Nat.le_refl _) _⟩
theorem later_28 (w : World) : Calls Try.prog 79 #[.int .i64 28] w fun e w' => e = .returned (rowV (shapeAt 28)) ∧ Below w.heap.size w w' := by
  go_enter Try.func79, Try.ntmps79
  go_wp2_with fail
  (try simp only [Exit.inBlock, Exit.then])
  refine bodyPost_ret (results_row rfl _ _ w.heap.size _ rfl rfl (Blk.new _ _ _)) rfl ?_
  exact ⟨rfl, (Below.refl _ _).alloc (Nat.le_refl _) _⟩
theorem later_29 (w : World) : Calls Try.prog 79 #[.int .i64 29] w fun e w' => e = .returned (rowV (shapeAt 29)) ∧ Below w.heap.size w w' := by
  go_enter Try.func79, Try.ntmps79
  go_wp2_with fail
  (try simp only [Exit.inBlock, Exit.then])
  refine bodyPost_ret (results_row rfl _ _ w.heap.size _ rfl rfl (Blk.new _ _ _)) rfl ?_
  exact ⟨rfl, (Below.refl _ _).alloc (Nat.le_refl _) _⟩
theorem later_30 (w : World) : Calls Try.prog 79 #[.int .i64 30] w fun e w' => e = .returned (rowV (shapeAt 30)) ∧ Below w.heap.size w w' := by
  go_enter Try.func79, Try.ntmps79
  go_wp2_with fail
  (try simp only [Exit.inBlock, Exit.then])
  refine bodyPost_ret (results_row rfl _ _ w.heap.size _ rfl rfl (Blk.new _ _ _)) rfl ?_
  exact ⟨rfl, (Below.refl _ _).alloc (Nat.le_refl _) _⟩
theorem later_31 (w : World) : Calls Try.prog 79 #[.int .i64 31] w fun e w' => e = .returned (rowV (shapeAt 31)) ∧ Below w.heap.size w w' := by
  go_enter Try.func79, Try.ntmps79
  go_wp2_with fail
  (try simp only [Exit.inBlock, Exit.then])
  refine bodyPost_ret (results_row rfl _ _ w.heap.size _ rfl rfl (Blk.new _ _ _)) rfl ?_
  exact ⟨rfl, (Below.refl _ _).alloc (Nat.le_refl _) _⟩
theorem later_32 (w : World) : Calls Try.prog 79 #[.int .i64 32] w fun e w' => e = .returned (rowV (shapeAt 32)) ∧ Below w.heap.size w w' := by
  go_enter Try.func79, Try.ntmps79
  go_wp2_with fail
  (try simp only [Exit.inBlock, Exit.then])
  refine bodyPost_ret (results_row rfl _ _ w.heap.size _ rfl rfl (Blk.new _ _ _)) rfl ?_
  exact ⟨rfl, (Below.refl _ _).alloc (Nat.le_refl _) _⟩
theorem later_33 (w : World) : Calls Try.prog 79 #[.int .i64 33] w fun e w' => e = .returned (rowV (shapeAt 33)) ∧ Below w.heap.size w w' := by
  go_enter Try.func79, Try.ntmps79
  go_wp2_with fail
  (try simp only [Exit.inBlock, Exit.then])
  refine bodyPost_ret (results_row rfl _ _ w.heap.size _ rfl rfl (Blk.new _ _ _)) rfl ?_
  exact ⟨rfl, (Below.refl _ _).alloc (Nat.le_refl _) _⟩
theorem later_34 (w : World) : Calls Try.prog 79 #[.int .i64 34] w fun e w' => e = .returned (rowV (shapeAt 34)) ∧ Below w.heap.size w w' := by
  go_enter Try.func79, Try.ntmps79
  go_wp2_with fail
  (try simp only [Exit.inBlock, Exit.then])
  refine bodyPost_ret (results_row rfl _ _ w.heap.size _ rfl rfl (Blk.new _ _ _)) rfl ?_
  exact ⟨rfl, (Below.refl _ _).alloc (Nat.le_refl _) _⟩
theorem row_1 (w : World) : Calls Try.prog 58 #[.int .i64 1] w fun e w' => e = .returned (rowV (shapeAt 1)) ∧ Below w.heap.size w w' := by
  go_enter Try.func58, Try.ntmps58
  go_wp2_with fail
  (try simp only [Exit.inBlock, Exit.then])
  refine bodyPost_ret (results_row rfl _ _ w.heap.size _ rfl rfl (Blk.new _ _ _)) rfl ?_
  exact ⟨rfl, (Below.refl _ _).alloc (Nat.le_refl _) _⟩
theorem row_2 (w : World) : Calls Try.prog 58 #[.int .i64 2] w fun e w' => e = .returned (rowV (shapeAt 2)) ∧ Below w.heap.size w w' := by
  go_enter Try.func58, Try.ntmps58
  go_wp2_with fail
  (try simp only [Exit.inBlock, Exit.then])
  refine bodyPost_ret (results_row rfl _ _ w.heap.size _ rfl rfl (Blk.new _ _ _)) rfl ?_
  exact ⟨rfl, (Below.refl _ _).alloc (Nat.le_refl _) _⟩
theorem row_3 (w : World) : Calls Try.prog 58 #[.int .i64 3] w fun e w' => e = .returned (rowV (shapeAt 3)) ∧ Below w.heap.size w w' := by
  go_enter Try.func58, Try.ntmps58
  go_wp2_with fail
  (try simp only [Exit.inBlock, Exit.then])
  refine bodyPost_ret (results_row rfl _ _ w.heap.size _ rfl rfl (Blk.new _ _ _)) rfl ?_
  exact ⟨rfl, (Below.refl _ _).alloc (Nat.le_refl _) _⟩
theorem row_4 (w : World) : Calls Try.prog 58 #[.int .i64 4] w fun e w' => e = .returned (rowV (shapeAt 4)) ∧ Below w.heap.size w w' := by
  go_enter Try.func58, Try.ntmps58
  go_wp2_with fail
  (try simp only [Exit.inBlock, Exit.then])
  refine bodyPost_ret (results_row rfl _ _ w.heap.size _ rfl rfl (Blk.new _ _ _)) rfl ?_
  exact ⟨rfl, (Below.refl _ _).alloc (Nat.le_refl _) _⟩
theorem row_5 (w : World) : Calls Try.prog 58 #[.int .i64 5] w fun e w' => e = .returned (rowV (shapeAt 5)) ∧ Below w.heap.size w w' := by
  go_enter Try.func58, Try.ntmps58
  go_wp2_with fail
  (try simp only [Exit.inBlock, Exit.then])
  refine bodyPost_ret (results_row rfl _ _ w.heap.size _ rfl rfl (Blk.new _ _ _)) rfl ?_
  exact ⟨rfl, (Below.refl _ _).alloc (Nat.le_refl _) _⟩
theorem row_6 (w : World) : Calls Try.prog 58 #[.int .i64 6] w fun e w' => e = .returned (rowV (shapeAt 6)) ∧ Below w.heap.size w w' := by
  go_enter Try.func58, Try.ntmps58
  go_wp2_with fail
  (try simp only [Exit.inBlock, Exit.then])
  refine bodyPost_ret (results_row rfl _ _ w.heap.size _ rfl rfl (Blk.new _ _ _)) rfl ?_
  exact ⟨rfl, (Below.refl _ _).alloc (Nat.le_refl _) _⟩
theorem row_7 (w : World) : Calls Try.prog 58 #[.int .i64 7] w fun e w' => e = .returned (rowV (shapeAt 7)) ∧ Below w.heap.size w w' := by
  go_enter Try.func58, Try.ntmps58
  go_wp2_with fail
  (try simp only [Exit.inBlock, Exit.then])
  refine bodyPost_ret (results_row rfl _ _ w.heap.size _ rfl rfl (Blk.new _ _ _)) rfl ?_
  exact ⟨rfl, (Below.refl _ _).alloc (Nat.le_refl _) _⟩
theorem row_8 (w : World) : Calls Try.prog 58 #[.int .i64 8] w fun e w' => e = .returned (rowV (shapeAt 8)) ∧ Below w.heap.size w w' := by
  go_enter Try.func58, Try.ntmps58
  go_wp2_with fail
  (try simp only [Exit.inBlock, Exit.then])
  refine bodyPost_ret (results_row rfl _ _ w.heap.size _ rfl rfl (Blk.new _ _ _)) rfl ?_
  exact ⟨rfl, (Below.refl _ _).alloc (Nat.le_refl _) _⟩
theorem row_9 (w : World) : Calls Try.prog 58 #[.int .i64 9] w fun e w' => e = .returned (rowV (shapeAt 9)) ∧ Below w.heap.size w w' := by
  go_enter Try.func58, Try.ntmps58
  go_wp2_with fail
  (try simp only [Exit.inBlock, Exit.then])
  refine bodyPost_ret (results_row rfl _ _ w.heap.size _ rfl rfl (Blk.new _ _ _)) rfl ?_
  exact ⟨rfl, (Below.refl _ _).alloc (Nat.le_refl _) _⟩
theorem row_10 (w : World) : Calls Try.prog 58 #[.int .i64 10] w fun e w' => e = .returned (rowV (shapeAt 10)) ∧ Below w.heap.size w w' := by
  go_enter Try.func58, Try.ntmps58
  go_wp2_with fail
  (try simp only [Exit.inBlock, Exit.then])
  refine bodyPost_ret (results_row rfl _ _ w.heap.size _ rfl rfl (Blk.new _ _ _)) rfl ?_
  exact ⟨rfl, (Below.refl _ _).alloc (Nat.le_refl _) _⟩
theorem row_11 (w : World) : Calls Try.prog 58 #[.int .i64 11] w fun e w' => e = .returned (rowV (shapeAt 11)) ∧ Below w.heap.size w w' := by
  go_enter Try.func58, Try.ntmps58
  go_wp2_with fail
  (try simp only [Exit.inBlock, Exit.then])
  refine bodyPost_ret (results_row rfl _ _ w.heap.size _ rfl rfl (Blk.new _ _ _)) rfl ?_
  exact ⟨rfl, (Below.refl _ _).alloc (Nat.le_refl _) _⟩
theorem row_12 (w : World) : Calls Try.prog 58 #[.int .i64 12] w fun e w' => e = .returned (rowV (shapeAt 12)) ∧ Below w.heap.size w w' := by
  go_enter Try.func58, Try.ntmps58
  go_wp2_with fail
  (try simp only [Exit.inBlock, Exit.then])
  refine bodyPost_ret (results_row rfl _ _ w.heap.size _ rfl rfl (Blk.new _ _ _)) rfl ?_
  exact ⟨rfl, (Below.refl _ _).alloc (Nat.le_refl _) _⟩
theorem row_13 (w : World) : Calls Try.prog 58 #[.int .i64 13] w fun e w' => e = .returned (rowV (shapeAt 13)) ∧ Below w.heap.size w w' := by
  go_enter Try.func58, Try.ntmps58
  go_wp2_with fail
  (try simp only [Exit.inBlock, Exit.then])
  refine bodyPost_ret (results_row rfl _ _ w.heap.size _ rfl rfl (Blk.new _ _ _)) rfl ?_
  exact ⟨rfl, (Below.refl _ _).alloc (Nat.le_refl _) _⟩
theorem row_14 (w : World) : Calls Try.prog 58 #[.int .i64 14] w fun e w' => e = .returned (rowV (shapeAt 14)) ∧ Below w.heap.size w w' := by
  go_enter Try.func58, Try.ntmps58
  go_wp2_with fail
  (try simp only [Exit.inBlock, Exit.then])
  refine bodyPost_ret (results_row rfl _ _ w.heap.size _ rfl rfl (Blk.new _ _ _)) rfl ?_
  exact ⟨rfl, (Below.refl _ _).alloc (Nat.le_refl _) _⟩
theorem row_15 (w : World) : Calls Try.prog 58 #[.int .i64 15] w fun e w' => e = .returned (rowV (shapeAt 15)) ∧ Below w.heap.size w w' := by
  go_enter Try.func58, Try.ntmps58
  go_wp2_with fail
  (try simp only [Exit.inBlock, Exit.then])
  refine bodyPost_ret (results_row rfl _ _ w.heap.size _ rfl rfl (Blk.new _ _ _)) rfl ?_
  exact ⟨rfl, (Below.refl _ _).alloc (Nat.le_refl _) _⟩
theorem row_later (k : Nat) (w : World) (f : ShapeR) (h1 : 16 ≤ k) (h2 : k ≤ 34) (h : ∀ w, Calls Try.prog 79 #[.int .i64 (k : Int)] w fun e w' => e = .returned (rowV f) ∧ Below w.heap.size w w') :
    Calls Try.prog 58 #[.int .i64 (k : Int)] w fun e w' => e = .returned (rowV f) ∧ Below w.heap.size w w' := by
  have n1 : ((k : Int) == 1) = false := by rw [beq_eq_false_iff_ne]; omega
  have n2 : ((k : Int) == 2) = false := by rw [beq_eq_false_iff_ne]; omega
  have n3 : ((k : Int) == 3) = false := by rw [beq_eq_false_iff_ne]; omega
  have n4 : ((k : Int) == 4) = false := by rw [beq_eq_false_iff_ne]; omega
  have n5 : ((k : Int) == 5) = false := by rw [beq_eq_false_iff_ne]; omega
  have n6 : ((k : Int) == 6) = false := by rw [beq_eq_false_iff_ne]; omega
  have n7 : ((k : Int) == 7) = false := by rw [beq_eq_false_iff_ne]; omega
  have n8 : ((k : Int) == 8) = false := by rw [beq_eq_false_iff_ne]; omega
  have n9 : ((k : Int) == 9) = false := by rw [beq_eq_false_iff_ne]; omega
  have n10 : ((k : Int) == 10) = false := by rw [beq_eq_false_iff_ne]; omega
  have n11 : ((k : Int) == 11) = false := by rw [beq_eq_false_iff_ne]; omega
  have n12 : ((k : Int) == 12) = false := by rw [beq_eq_false_iff_ne]; omega
  have n13 : ((k : Int) == 13) = false := by rw [beq_eq_false_iff_ne]; omega
  have n14 : ((k : Int) == 14) = false := by rw [beq_eq_false_iff_ne]; omega
  have n15 : ((k : Int) == 15) = false := by rw [beq_eq_false_iff_ne]; omega
  have H := hide h; clear h
  go_enter Try.func58, Try.ntmps58
  go_wp2_with fail
  have hB := Blk.new w 104 #[.string ⟨#[]⟩, .int .i64 0, .int .i64 0, .int .i64 0, .bool false]
  have hb0 : Below w.heap.size w (w.alloc (.cells #[.string ⟨#[]⟩, .int .i64 0, .int .i64 0, .int .i64 0, .bool false] 104)) := (Below.refl _ _).alloc (Nat.le_refl _) _
  refine ((unhide H) _).mono ?_
  rintro e w' ⟨rfl, hb⟩
  have hB' := hB.below hb hB.lt
  have k0 := hB'.cell 0; have k1 := hB'.cell 1; have k2 := hB'.cell 2; have k3 := hB'.cell 3; have k4 := hB'.cell 4
  have f0 := hB'.frozen 0; have f1 := hB'.frozen 1; have f2 := hB'.frozen 2; have f3 := hB'.frozen 3; have f4 := hB'.frozen 4
  simp only [List.getElem?_toArray, List.getElem?_cons_zero, List.getElem?_cons_succ] at k0 k1 k2 k3 k4
  have HW := hide (And.intro hB' (hb0.trans (hb.mono hb0.size))); clear hB hb0 hb hB'
  unfold rowV
  go_wp2_with fail
  (try simp only [Exit.inBlock, Exit.then])
  have hB5 := (((((unhide HW).1.set_ 0 (.string f.wd)).set_ 1 (.int .i64 (f.a : Int))).set_ 2 (.int .i64 (f.b : Int))).set_ 3 (.int .i64 (f.more : Int))).set_ 4 (.bool f.opts)
  refine bodyPost_ret (results_row rfl _ _ w.heap.size _ rfl rfl hB5) rfl ?_
  exact ⟨rfl, ((((((unhide HW).2.setCell (p := ⟨w.heap.size, 0, none⟩) (Nat.le_refl _) _).setCell (p := ⟨w.heap.size, 1, none⟩) (Nat.le_refl _) _).setCell (p := ⟨w.heap.size, 2, none⟩) (Nat.le_refl _) _).setCell (p := ⟨w.heap.size, 3, none⟩) (Nat.le_refl _) _).setCell (p := ⟨w.heap.size, 4, none⟩) (Nat.le_refl _) _)⟩
theorem row_any (k : Nat) (w : World) (h1 : 1 ≤ k) (h2 : k ≤ 34) : Calls Try.prog 58 #[.int .i64 (k : Int)] w fun e w' => e = .returned (rowV (shapeAt k)) ∧ Below w.heap.size w w' := by
  match k, h1, h2 with
  | 1, _, _ => exact row_1 w
  | 2, _, _ => exact row_2 w
  | 3, _, _ => exact row_3 w
  | 4, _, _ => exact row_4 w
  | 5, _, _ => exact row_5 w
  | 6, _, _ => exact row_6 w
  | 7, _, _ => exact row_7 w
  | 8, _, _ => exact row_8 w
  | 9, _, _ => exact row_9 w
  | 10, _, _ => exact row_10 w
  | 11, _, _ => exact row_11 w
  | 12, _, _ => exact row_12 w
  | 13, _, _ => exact row_13 w
  | 14, _, _ => exact row_14 w
  | 15, _, _ => exact row_15 w
  | 16, _, _ => exact row_later 16 w _ (by decide) (by decide) later_16
  | 17, _, _ => exact row_later 17 w _ (by decide) (by decide) later_17
  | 18, _, _ => exact row_later 18 w _ (by decide) (by decide) later_18
  | 19, _, _ => exact row_later 19 w _ (by decide) (by decide) later_19
  | 20, _, _ => exact row_later 20 w _ (by decide) (by decide) later_20
  | 21, _, _ => exact row_later 21 w _ (by decide) (by decide) later_21
  | 22, _, _ => exact row_later 22 w _ (by decide) (by decide) later_22
  | 23, _, _ => exact row_later 23 w _ (by decide) (by decide) later_23
  | 24, _, _ => exact row_later 24 w _ (by decide) (by decide) later_24
  | 25, _, _ => exact row_later 25 w _ (by decide) (by decide) later_25
  | 26, _, _ => exact row_later 26 w _ (by decide) (by decide) later_26
  | 27, _, _ => exact row_later 27 w _ (by decide) (by decide) later_27
  | 28, _, _ => exact row_later 28 w _ (by decide) (by decide) later_28
  | 29, _, _ => exact row_later 29 w _ (by decide) (by decide) later_29
  | 30, _, _ => exact row_later 30 w _ (by decide) (by decide) later_30
  | 31, _, _ => exact row_later 31 w _ (by decide) (by decide) later_31
  | 32, _, _ => exact row_later 32 w _ (by decide) (by decide) later_32
  | 33, _, _ => exact row_later 33 w _ (by decide) (by decide) later_33
  | 34, _, _ => exact row_later 34 w _ (by decide) (by decide) later_34
  | k + 35, _, h => exact absurd h (by omega)
end Go.Proofs.Ytaomecinemmdgaa

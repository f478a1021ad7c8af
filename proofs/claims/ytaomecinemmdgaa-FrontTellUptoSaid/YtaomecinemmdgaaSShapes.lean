/-
  CONTRACTS of play.shapes and of the document's row: the shapes of the steps.
-/
import Derived.Test.YtaomecinemmdgaaRows
import Derived.Laws.ResultCell
import Derived.Laws.Rows
import Derived.Laws.Tables
import Derived.Test.YtaomecinemmdgaaGBase
import Derived.Test.YtaomecinemmdgaaSPlayT
set_option linter.unusedVariables false
set_option linter.unusedSimpArgs false
namespace Go.Proofs.Ytaomecinemmdgaa
open Go.RowKit Go.Lib
theorem below_row {B : Nat} {a w : World} (h : Below B a w) {g : Nat} (hg : B ≤ g) (cs : Array Value) : Below B a (w.setRow g cs) :=
  h.trans ⟨rfl, rfl, rfl, by simp [World.setRow], fun k hk => by simp only [World.setRow, Array.getElem?_modify]; rw [if_neg (by omega)]⟩
theorem wpList_run_app {P : Program} {ops : Array Oper} {Q : Exit → Act → World → Prop} : ∀ {l l2 : List Oper} {a : Act} {w : World} {r : Act × World},
    runList P ops l a w = some r → wpList P ops Q l2 r.1 r.2 → wpList P ops Q (l ++ l2) a w
  | [], l2, a, w, r, h, hq => by
    simp only [runList, Option.some.injEq] at h
    subst h
    exact hq
  | o :: rest, l2, a, w, r, h, hq => by
    unfold runList at h
    rw [List.cons_append]
    unfold wpList
    by_cases hw : Region.wanted o (yielded ops a.tmps) = true
    · rw [if_pos hw] at h
      rw [if_pos hw]
      refine .inl ?_
      unfold Oper.wp
      cases hr : (execOp a.eval o).run P w with
      | ok n w' =>
        rw [hr] at h
        cases n with
        | value v => exact wpList_run_app (r := r) h hq
        | skip => exact wpList_run_app (r := r) h hq
        | _ => simp at h
      | halt x w' => rw [hr] at h; simp at h
    · rw [if_neg hw] at h
      rw [if_neg hw]
      exact wpList_run_app h hq
/-- A function that builds an array's value, stores it into its result and returns: the kernel reckons the value. -/
theorem calls_lit {P : Program} {f : FuncId} {fn : Func} {i0 i1 n : Nat} {ops0 ops1 : Array Oper} {args : Array Value} {w : World} {T : TypeId} {Z C : Array Value} {p q : Tmp} {d : TypeDesc}
    (hf : P.funcs[f]? = some fn) (hb : fn.body = some (.seq (.region i0 ops0 false) (.seq (.region i1 ops1 false) .ret))) (hr : fn.results = #[.cell p T])
    (hn : ops1.toList.length = n + 1) (hs : (ops1.toList[n]?).map (fun o => (o.op, o.guard, o.dst)) = some (.store T (.tmp p) (.tmp q), none, none))
    (h : (runCode P (.region i0 ops0 false) { tmps := args ++ Array.replicate (fn.ntmps - args.size) undef, defers := [] } w).bind (fun r => (runList P ops1 (ops1.toList.take n) r.2.1 r.2.2).map fun r2 => (r.1, r2.1.defers, r2.1.tmps.getD p undef, r2.1.tmps.getD q undef, r2.2)) = some (.normal, [], .pointer (some ⟨w.heap.size, 0, none⟩), .agg C, w.alloc (.cells Z T)))
    (hi : (P.info? T).map (·.size) = some C.size) (hZ : Z.size = C.size) (h1 : C.all (·.oneCell') = true) (hu : P.underlying T = some d) (hd : (match d with | .struct _ | .array _ _ => true | _ => false) = true) :
    Calls P f args w fun e w' => e = .returned (.agg C) ∧ Below w.heap.size w w' := by
  cases hc : runCode P (.region i0 ops0 false) { tmps := args ++ Array.replicate (fn.ntmps - args.size) undef, defers := [] } w with
  | none => rw [hc] at h; simp at h
  | some r =>
    rw [hc] at h
    simp only [Option.bind_some] at h
    cases hc2 : runList P ops1 (ops1.toList.take n) r.2.1 r.2.2 with
    | none => rw [hc2] at h; simp at h
    | some r2 =>
      rw [hc2] at h
      obtain ⟨e, a, w1⟩ := r
      obtain ⟨a2, w2⟩ := r2
      simp only [Option.map_some, Option.some.injEq, Prod.mk.injEq] at h
      obtain ⟨rfl, hdf, hp, hq, rfl⟩ := h
      refine calls_of_wp hf hb (wp_seq (wp_run hc (wp_seq (wp_region_list ?_))))
      have hlt : n < ops1.toList.length := by omega
      rw [List.getElem?_eq_getElem hlt] at hs
      have hl : ops1.toList = ops1.toList.take n ++ [ops1.toList[n]] := by rw [← List.take_succ_eq_append_getElem hlt, List.take_of_length_le (by omega)]
      generalize ops1.toList[n] = st at hs hl
      simp only [Option.map_some, Option.some.injEq, Prod.mk.injEq] at hs
      obtain ⟨hst, hg, hds⟩ := hs
      rw [hl]
      refine wpList_run_app hc2 ?_
      have hp2 : a2.tmps[p]?.getD undef = .pointer (some ⟨w.heap.size, 0, none⟩) := by simpa using hp
      refine wpList_store_row hg T (.tmp p) (.tmp q) hst w.heap.size C hp hq T Z (heap_alloc_new w _) hi hZ h1 ?_
      have hX : Blk ((w.alloc (.cells Z T)).setRow w.heap.size C) w.heap.size T C := setRow_heap _ _ _ _ _ _ (heap_alloc_new w _)
      have h2 := run_loadVar_row (P := P) ((w.alloc (.cells Z T)).setRow w.heap.size C) w.heap.size T T C (0, 0) d hX hu hd hi
      rw [hds]
      refine wp_ret (bodyPost_ret (v := .agg C) ?_ hdf ⟨rfl, below_row ((Below.refl _ _).alloc (Nat.le_refl _) _) (Nat.le_refl _) _⟩)
      simp [results, hr, Act.put, hp2, asAddr, h2, Result.andThen]
def wantsS (f : ShapeR) : ByteArray := ⟨(wantsL f).toArray⟩
def shapesC : List Value := shapesT.flatMap fun f => [.string f.wd, .string (wantsS f)]
set_option maxRecDepth 100000 in
theorem shapes_any (w : World) : Calls Try.prog 26 #[] w fun e w' => e = .returned (.agg shapesC.toArray) ∧ Below w.heap.size w w' :=
  calls_lit (n := 36) (p := 0) (q := 36) (Z := (List.replicate 70 (.string ⟨#[]⟩)).toArray) Try.func26 rfl Try.results26 (by kernel_rfl) (by kernel_rfl) (by kernel_rfl) (by kernel_rfl) (by kernel_rfl) (by kernel_rfl) Try.underlying61 rfl
end Go.Proofs.Ytaomecinemmdgaa

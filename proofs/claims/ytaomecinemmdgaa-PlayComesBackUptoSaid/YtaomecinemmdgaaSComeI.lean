/-
  A LIST of steps that the law owns, its steps' rows its own or the argument's.
-/
import Derived.Test.YtaomecinemmdgaaRows
import Derived.Test.YtaomecinemmdgaaGBase
import Derived.Test.YtaomecinemmdgaaSTwinI
import Derived.Test.YtaomecinemmdgaaSCleanA
set_option linter.unusedVariables false
set_option linter.unusedSimpArgs false
namespace Go.Proofs.Ytaomecinemmdgaa
open Go.RowKit Go.Lib
def NI (w W : World) (x : TE) : Prop := (IntsAt w x.vn x.ns ∨ OwnI W w.heap.size x.vn x.ns) ∧ (StrsAt w x.vs x.ss ∨ OwnT W w.heap.size x.vs x.ss)
structure CnS (w W : World) (v : Value) (es : List TE) : Prop where
  row : OwnS W w.heap.size v es
  nest : ∀ x ∈ es, NI w W x
  b : Below w.heap.size w W
theorem NI.call {w W W' : World} {x : TE} (h : NI w W x) (hb : Below W.heap.size W W') : NI w W' x :=
  ⟨h.1.imp id fun h => row_low h (fun k hk => (World.ownsRow.lt h k hk).2) hb, h.2.imp id fun h => row_low h (fun k hk => (World.ownsRow.lt h k hk).2) hb⟩
theorem CnS.call {w W W' : World} {v : Value} {es : List TE} (h : CnS w W v es) (hb : Below W.heap.size W W') : CnS w W' v es :=
  ⟨row_low h.row (fun k hk => (World.ownsRow.lt h.row k hk).2) hb, fun x hx => (h.nest x hx).call hb, h.b.trans (hb.mono h.b.size)⟩
theorem NI.app {w W W' : World} {v : Value} {es : List TE} {x : TE} {ob : Obj} (h : NI w W x) (hr : OwnS W w.heap.size v es) (hg : (W.alloc ob).grownBy W' v.ownBlock) : NI w W' x :=
  have hr2 := World.ownsRow.alloc hr ob
  ⟨h.1.imp id fun h => World.ownsRow.kept (World.ownsRow.alloc h ob) hg (row_ne (World.ownsRow.alloc h ob) hr2 (by decide)), h.2.imp id fun h => World.ownsRow.kept (World.ownsRow.alloc h ob) hg (row_ne (World.ownsRow.alloc h ob) hr2 (by decide))⟩
theorem CnS.app {w W W' : World} {v v' : Value} {es : List TE} {y : TE} {ob : Obj} (h : CnS w W v es) (hy : NI w W y) (hO : OwnS W' w.heap.size v' (es ++ [y])) (hg : (W.alloc ob).grownBy W' v.ownBlock) : CnS w W' v' (es ++ [y]) :=
  ⟨hO, fun x hx => by
    rcases List.mem_append.1 hx with hx | hx
    · exact (h.nest x hx).app h.row hg
    · rw [List.mem_singleton] at hx
      subst hx
      exact hy.app h.row hg,
   (h.b.alloc h.b.size ob).grown hg (by have := h.b.size; simp; omega) (fun k hk => (World.ownsRow.lt h.row k hk).1)⟩
theorem CnS.steps {w W : World} {v : Value} {es : List TE} (h : CnS w W v es) : StepsAt W v (es.map TE.step) := by
  rcases id h.row.2 with ⟨rfl, hn⟩ | ⟨g, cap, cur, rfl, -⟩
  · obtain rfl := List.eq_nil_of_length_eq_zero hn
    exact ⟨none, 0, rfl, fun j hj => absurd hj (by simp)⟩
  · refine ⟨some ⟨g, 0, none⟩, cap, by simp, fun j hj => ⟨_, rfl, ?_⟩⟩
    rw [List.length_map] at hj
    have hadd : (⟨g, 0, none⟩ : Addr).add (j * 9) = ⟨g, j * 9, none⟩ := by unfold Addr.add; split <;> simp_all
    rw [hadd, List.getElem_map]
    have hc := fun i hi => OwnS.cell h.row j i hj hi
    have hn := h.nest _ (List.getElem_mem hj)
    generalize es[j] = x at *
    exact ⟨x.vn, x.vs, x.a, x.b, x.c, x.d, x.e, x.f, rfl, hc 0 (by omega), hc 1 (by omega), hc 2 (by omega), hc 3 (by omega), hc 4 (by omega), hc 5 (by omega), hc 6 (by omega), hc 7 (by omega), hc 8 (by omega), hn.1.elim (fun h2 => h2.below h.b) (fun h2 => h2.ints), hn.2.elim (fun h2 => h2.below h.b) own_strs⟩
/-- What clean answers, as a step of the list. -/
theorem ni_of {w W W' : World} {vn vs : Value} {ns : List Int} {ss : List ByteArray} {y : TE} (hb : Below w.heap.size w W) (hN : IntsAt w vn ns) (hS : StrsAt w vs ss) (h1 : NRow W W' vn ns y.vn y.ns) (h2 : SRow W W' vs ss y.vs y.ss) : NI w W' y := by
  refine ⟨?_, ?_⟩
  · rcases h1 with ⟨e1, e2⟩ | h
    · rw [e1, e2]; exact .inl hN
    · exact .inr (row_mono h hb.size)
  · rcases h2 with ⟨e1, e2⟩ | h
    · rw [e1, e2]; exact .inl hS
    · exact .inr (row_mono h hb.size)
theorem NI.one {w W : World} {y : TE} (h : NI w W y) : y.vn.oneCell' = true ∧ y.vs.oneCell' = true :=
  ⟨h.1.elim (fun h => by obtain ⟨A, c, e, -⟩ := h; rw [e]; rfl) row_one, h.2.elim (fun h => by obtain ⟨A, c, e, -⟩ := h; rw [e]; rfl) row_one⟩
theorem cns_first (w : World) : CnS w (w.alloc (.cells #[.int .i64 4, .slice none 0 0, .slice none 0 0, .int .i64 0, .int .i64 0, .int .i64 0, .int .i64 0, .int .i64 0, .int .i64 0] 52)) (.slice (some ⟨w.heap.size, 0, none⟩) 1 1) [⟨4, .slice none 0 0, .slice none 0 0, 0, 0, 0, 0, 0, 0, [], []⟩] :=
  ⟨World.ownsRow_lit w #[.int .i64 4, .slice none 0 0, .slice none 0 0, .int .i64 0, .int .i64 0, .int .i64 0, .int .i64 0, .int .i64 0, .int .i64 0] 1 (Nat.le_refl _) (by simp [maxLen]) rfl, fun x hx => by
    rw [List.mem_singleton] at hx
    subst hx
    exact ⟨.inr (World.ownsRow_nil _ _ _ _), .inr (World.ownsRow_nil _ _ _ _)⟩, (Below.refl _ _).alloc (Nat.le_refl _) _⟩
end Go.Proofs.Ytaomecinemmdgaa

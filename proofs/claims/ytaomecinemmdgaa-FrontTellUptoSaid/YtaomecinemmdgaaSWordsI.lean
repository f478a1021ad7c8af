/-
  THE STATE of play.words' loop: what stands, and what keeps it.
-/
import Derived.Test.YtaomecinemmdgaaRows
import Derived.Test.YtaomecinemmdgaaGBase
import Derived.Test.YtaomecinemmdgaaGLns
import Derived.Test.YtaomecinemmdgaaGDecs
import Derived.Test.YtaomecinemmdgaaSEsc
import Derived.Test.YtaomecinemmdgaaSShapes
import Derived.Test.YtaomecinemmdgaaSPlayNum
set_option linter.unusedVariables false
set_option linter.unusedSimpArgs false
namespace Go.Proofs.Ytaomecinemmdgaa
open Go.RowKit Go.Lib
theorem Blk.of_eq {w w' : World} {g : Nat} {t : TypeId} {cs : Array Value} (h : Blk w g t cs) (e : w'.heap[g]? = w.heap[g]?) : Blk w' g t cs := e.trans h
theorem OwnT.iterAt {w : World} {base : Nat} {v : Value} {es : List ByteArray} (h : OwnT w base v es) {k : Nat} {s : ByteArray} {p : Nat} (hk : w.heap[k]? = some (.stringIter s p)) (p' : Nat) : OwnT (w.iterAt k s p') base v es := by
  obtain ⟨h1, h2⟩ := h
  refine ⟨h1, ?_⟩
  rcases h2 with h2 | ⟨g, cap, cur, a, b, c, d⟩
  · exact .inl h2
  · exact .inr ⟨g, cap, cur, a, b, by rw [Lib.iterAt_other _ _ _ _ _ (fun e => by subst e; rw [hk] at c; cases c)]; exact c, d⟩
theorem own_no_iter {w : World} {base : Nat} {v : Value} {es : List ByteArray} (h : OwnT w base v es) {k : Nat} {s : ByteArray} {p : Nat} (hk : w.heap[k]? = some (.stringIter s p)) : some k ≠ v.ownBlock := by
  rcases h.2 with ⟨rfl, _⟩ | ⟨g, cap, cur, rfl, hb, hg, rest⟩
  · simp [Value.ownBlock]
  · intro e
    simp only [Value.ownBlock, Option.some.injEq] at e
    subst e
    rw [hk] at hg
    cases hg
theorem own_no_blk {w : World} {base : Nat} {v : Value} {es : List ByteArray} (h : OwnT w base v es) {k : Nat} {T : TypeId} {cs : Array Value} (hk : Blk w k T cs) (hT : T ≠ 9) : some k ≠ v.ownBlock := by
  rcases h.2 with ⟨rfl, _⟩ | ⟨g, cap, cur, rfl, hb, hg, rest⟩
  · simp [Value.ownBlock]
  · intro e
    simp only [Value.ownBlock, Option.some.injEq] at e
    subst e
    unfold Blk at hk
    rw [hk] at hg
    injection hg with hg
    injection hg with _ h2 _
    exact hT h2
theorem blk_appT {W W' : World} {o : Obj} {g : Nat} {T : TypeId} {cs : Array Value} {v : Value} {base : Nat} {es : List ByteArray} (h : Blk W g T cs) (hO : OwnT W base v es) (hT : T ≠ 9) (hg : (W.alloc o).grownBy W' v.ownBlock) : Blk W' g T cs :=
  (h.alloc o).of_eq (hg.block g (by have := h.lt; simp; omega) (own_no_blk hO h hT))
/-- What stands in the loop of words: the row under way, the iterator, the shape, the step. -/
structure WdI (w W : World) (gf g0 gi : Nat) (F : ShapeR) (st : Array Value) (o : Value) (es : List ByteArray) (j : Nat) : Prop where
  own : OwnT W (gf + 1) o es
  it : W.heap[gi]? = some (.stringIter (wantsS F) j)
  f : Blk W gf 60 #[.string F.wd, .string (wantsS F)]
  s : Blk W g0 52 st
  b : Below w.heap.size w W
  n0 : w.heap.size = g0
  n1 : g0 < gf
  n2 : gf < gi
theorem WdI.lt {w W : World} {gf g0 gi : Nat} {F : ShapeR} {st : Array Value} {o : Value} {es : List ByteArray} {j : Nat} (h : WdI w W gf g0 gi F st o es j) : gi < W.heap.size := (Array.getElem?_eq_some_iff.1 h.it).1
theorem WdI.next {w W : World} {gf g0 gi : Nat} {F : ShapeR} {st : Array Value} {o : Value} {es : List ByteArray} {j : Nat} (h : WdI w W gf g0 gi F st o es j) (j' : Nat) : WdI w (W.iterAt gi (wantsS F) j') gf g0 gi F st o es j' :=
  have h1 := h.n1
  have h2 := h.n2
  ⟨h.own.iterAt h.it j', Lib.iterAt_heap _ _ _ _ _ h.it, h.f.of_eq (Lib.iterAt_other _ _ _ _ _ (by omega)), h.s.of_eq (Lib.iterAt_other _ _ _ _ _ (by omega)), Lib.below_iterAt h.b (by have := h.n0; omega) _ _, h.n0, h.n1, h.n2⟩
theorem WdI.call {w W W1 : World} {gf g0 gi : Nat} {F : ShapeR} {st : Array Value} {o : Value} {es : List ByteArray} {j : Nat} (h : WdI w W gf g0 gi F st o es j) (hb : Below W.heap.size W W1) : WdI w W1 gf g0 gi F st o es j :=
  ⟨h.own.below hb, (hb.block gi h.lt).trans h.it, h.f.below hb h.f.lt, h.s.below hb h.s.lt, h.b.trans (hb.mono h.b.size), h.n0, h.n1, h.n2⟩
theorem WdI.app {w W W' : World} {gf g0 gi : Nat} {F : ShapeR} {st : Array Value} {o o' : Value} {es es' : List ByteArray} {j : Nat} {ob : Obj} (h : WdI w W gf g0 gi F st o es j) (hO : OwnT W' (gf + 1) o' es') (hg : (W.alloc ob).grownBy W' o.ownBlock) : WdI w W' gf g0 gi F st o' es' j :=
  have h1 := h.n1
  have h2 := h.n2
  have h3 := h.n0
  have h4 := h.lt
  have hz : (W.alloc ob).heap.size = W.heap.size + 1 := by simp
  have hlt := World.ownsRow.lt h.own
  ⟨hO, (hg.block gi (by omega) (own_no_iter h.own h.it)).trans ((Below.heap_alloc W ob gi h4).trans h.it),
   (h.f.alloc ob).of_eq (hg.block gf (by omega) (fun e => by have := (hlt gf e.symm).1; omega)),
   (h.s.alloc ob).of_eq (hg.block g0 (by omega) (fun e => by have := (hlt g0 e.symm).1; omega)),
   (h.b.alloc h.b.size ob).grown hg (by have := h.b.size; omega) (fun k hk => by have := (hlt k hk).1; omega), h.n0, h.n1, h.n2⟩
end Go.Proofs.Ytaomecinemmdgaa

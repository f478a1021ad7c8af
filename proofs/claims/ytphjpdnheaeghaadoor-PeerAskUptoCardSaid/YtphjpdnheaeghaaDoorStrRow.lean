/-
  WORDS on slices of texts: to be read (StrsAt), and rows that the call itself owns (OwnT).
-/
import Derived.Test.YtphjpdnheaeghaaDoorRows
import Derived.Test.YtphjpdnheaeghaaDoorWd
import Derived.Laws.OwnMore
set_option linter.unusedVariables false
set_option linter.unusedSimpArgs false
namespace Go.Proofs.YtphjpdnheaeghaaDoor
open Go.RowKit Go.Lib
/-- A slice of texts, to be read. -/
def StrsAt (w : World) (v : Value) (es : List ByteArray) : Prop :=
  ∃ A c, v = .slice A es.length c ∧ ∀ j (h : j < es.length), ∃ a, A = some a ∧ w.cell? (a.add j) = some (.string es[j])
theorem StrsAt.keep {w w' : World} {v : Value} {es : List ByteArray} (h : StrsAt w v es) (hk : ∀ p : Addr, p.block < w.heap.size → w'.cell? p = w.cell? p) : StrsAt w' v es := by
  obtain ⟨A, c, rfl, hc⟩ := h
  refine ⟨A, c, rfl, fun j hj => ?_⟩
  obtain ⟨a, rfl, h1⟩ := hc j hj
  exact ⟨a, rfl, (hk _ (World.block_lt_of_cell? w _ h1)).trans h1⟩
theorem StrsAt.below {w w' : World} {v : Value} {es : List ByteArray} (h : StrsAt w v es) (hb : Below w.heap.size w w') : StrsAt w' v es := h.keep fun p hp => hb.cell hp
theorem StrsAt.drew {w : World} {v : Value} {es : List ByteArray} (h : StrsAt w v es) : StrsAt w.drew v es := h
theorem StrsAt.alloc {w : World} {v : Value} {es : List ByteArray} (h : StrsAt w v es) (o : Obj) : StrsAt (w.alloc o) v es := h.keep fun p hp => World.cell?_alloc_lt w o p hp
/-- A row of texts that the call owns. -/
def OwnT (w : World) (base : Nat) (v : Value) (es : List ByteArray) : Prop := w.ownsRow base 9 1 v es.length (es.map Value.string)
theorem OwnT.nil (w : World) (base : Nat) : OwnT w base (.slice none 0 0) [] := World.ownsRow_nil w base _ _
theorem OwnT.form {w : World} {base : Nat} {v : Value} {es : List ByteArray} (h : OwnT w base v es) : (v = .slice none 0 0 ∧ es = []) ∨ ∃ g cap, v = .slice (some ⟨g, 0, none⟩) es.length cap ∧ base ≤ g ∧ g < w.heap.size ∧ es.length ≤ cap := by
  rcases h.2 with ⟨rfl, hn⟩ | ⟨g, cap, cur, rfl, hb, hg, hnc, _⟩
  · exact .inl ⟨rfl, List.eq_nil_of_length_eq_zero hn⟩
  · exact .inr ⟨g, cap, rfl, hb, (Array.getElem?_eq_some_iff.1 hg).1, hnc⟩
theorem OwnT.below {w w' : World} {base : Nat} {v : Value} {es : List ByteArray} (h : OwnT w base v es) (hb : Below w.heap.size w w') : OwnT w' base v es :=
  World.ownsRow.kept h (only_of_below hb none) (by cases hv : v.ownBlock <;> simp)
theorem OwnT.alloc {w : World} {base : Nat} {v : Value} {es : List ByteArray} (h : OwnT w base v es) (o : Obj) : OwnT (w.alloc o) base v es := World.ownsRow.alloc h o
theorem OwnT.drew {w : World} {base : Nat} {v : Value} {es : List ByteArray} (h : OwnT w base v es) : OwnT w.drew base v es := h
theorem OwnT.cell {w : World} {base g n cap : Nat} {es : List ByteArray} (h : OwnT w base (.slice (some ⟨g, 0, none⟩) n cap) es) (j : Nat) (hj : j < es.length) : w.cell? ⟨g, j, none⟩ = some (.string es[j]) := by
  have hn : n = es.length := by
    rcases h.form with ⟨hv, he⟩ | ⟨g', cap', hv, _⟩
    · cases hv
    · injection hv
  subst hn
  have := World.ownsRow.cellAt h j (by omega)
  rw [this]
  simp [hj]
theorem OwnT.strs {w : World} {base g n cap : Nat} {es : List ByteArray} (h : OwnT w base (.slice (some ⟨g, 0, none⟩) n cap) es) (m c : Nat) (hm : m ≤ es.length) : StrsAt w (.slice (some ⟨g, 0, none⟩) m c) (es.take m) := by
  refine ⟨some ⟨g, 0, none⟩, c, by rw [List.length_take, Nat.min_eq_left hm], fun j hj => ⟨_, rfl, ?_⟩⟩
  have hadd : (⟨g, 0, none⟩ : Addr).add j = ⟨g, j, none⟩ := by unfold Addr.add; split <;> simp_all
  rw [List.length_take] at hj
  rw [hadd, h.cell j (by omega)]
  simp
theorem strInfo : (Tryd.prog.info? 9).map (fun i => (i.zero, i.size, i.bytes)) = some (some (.string ⟨#[]⟩), 1, 16) := by kernel_rfl
theorem StrsAt.reads {w : World} {A : Option Addr} {m c : Nat} {es : List ByteArray} (h : StrsAt w (.slice A m c) es) : m = es.length ∧ Reads w w.heap.size 1 A m (es.map Value.string) := by
  obtain ⟨A', c', hv, hc⟩ := h
  injection hv with e1 e2 e3
  subst e1 e2 e3
  refine ⟨rfl, by simp, fun h0 => ?_⟩
  obtain ⟨a, rfl, h1⟩ := hc 0 h0
  have hb := World.block_lt_of_cell? w _ h1
  rw [block_of_add] at hb
  refine ⟨a, rfl, hb, fun j u hu => ?_⟩
  rw [List.getElem?_map, Option.map_eq_some_iff] at hu
  obtain ⟨x, hx, rfl⟩ := hu
  obtain ⟨hj, rfl⟩ := List.getElem?_eq_some_iff.1 hx
  obtain ⟨a', ha, h2⟩ := hc j hj
  injection ha with ha
  subst ha
  exact h2
/-- append(v, x...) of texts. -/
theorem wpList_appT {ops : Array Oper} {rest : List Oper} {o : Oper} {a : Act} {Q : Exit → Act → World → Prop} (w : World) (hgd : o.guard = none) (s x : Operand)
    (ho : o.op = .call { callee := .builtin .append, args := #[s, x], argTypes := #[22, 22] })
    {base : Nat} {v : Value} {es : List ByteArray} (hown : OwnT w base v es) (hs : a.eval s = v) {A : Option Addr} {m c : Nat} {es2 : List ByteArray} (hr : StrsAt w (.slice A m c) es2) (hx : a.eval x = .slice A m c)
    (h47 : es.length + es2.length ≤ 4398046511104) (hbase : base ≤ w.heap.size)
    (h : ∀ v' w', OwnT w' base v' (es ++ es2) → w.grownBy w' v.ownBlock → (v'.ownBlock = v.ownBlock ∨ v'.ownBlock = some w.heap.size) → wpList Tryd.prog ops Q rest (a.put o.dst v') w') : wpList Tryd.prog ops Q (o :: rest) a w := by
  obtain ⟨i, hi, hz, hs1, hb1⟩ := info_parts strInfo
  obtain ⟨hm, hrd⟩ := hr.reads
  refine wpList_append_any (w := w) hgd s x 22 ho base 9 i (.string ⟨#[]⟩) 1 16 Tryd.underlying22 hi hz hs1 hb1 rfl (by decide) v es.length (es.map Value.string) hs hown w.heap.size A m c (es2.map Value.string) hx hrd ?_ ?_ ?_ hbase ?_
  · intro u hu
    obtain ⟨y, _, rfl⟩ := List.mem_map.1 hu
    rfl
  · simp only [maxLen]; omega
  · omega
  · intro v' w' h1 h2 h3
    refine h v' w' ?_ h2 h3
    unfold OwnT
    rw [List.map_append, List.length_append, ← hm]
    exact h1
/-- append(v, x), x one text in a new block of one cell. -/
theorem wpList_appT1 {ops : Array Oper} {rest : List Oper} {o : Oper} {a : Act} {Q : Exit → Act → World → Prop} (w : World) (hgd : o.guard = none) (s x : Operand)
    (ho : o.op = .call { callee := .builtin .append, args := #[s, x], argTypes := #[22, 22] })
    {base : Nat} {v : Value} {es : List ByteArray} (hown : OwnT w base v es) (hs : a.eval s = v) {st : ByteArray} (hx : a.eval x = .slice (some ⟨w.heap.size, 0, none⟩) 1 1)
    (h47 : es.length + 1 ≤ 4398046511104) (hbase : base ≤ w.heap.size)
    (h : ∀ v' w', OwnT w' base v' (es ++ [st]) → (w.alloc (.cells #[.string st] 9)).grownBy w' v.ownBlock → (v'.ownBlock = v.ownBlock ∨ v'.ownBlock = some (w.heap.size + 1)) → wpList Tryd.prog ops Q rest (a.put o.dst v') w') :
    wpList Tryd.prog ops Q (o :: rest) a (w.alloc (.cells #[.string st] 9)) := by
  refine wpList_appT _ hgd s x ho (hown.alloc _) hs (es2 := [st]) ⟨some ⟨w.heap.size, 0, none⟩, 1, rfl, fun j hj => ⟨_, rfl, ?_⟩⟩ hx (by simpa using h47) (by simp; omega) (fun v' w' h1 h2 h3 => h v' w' h1 h2 (by simpa using h3))
  obtain rfl : j = 0 := by simp at hj; exact hj
  have hadd : (⟨w.heap.size, 0, none⟩ : Addr).add 0 = ⟨w.heap.size, 0, none⟩ := by unfold Addr.add; simp
  rw [hadd, (Blk.new w 9 #[.string st]).cell 0]
  rfl
end Go.Proofs.YtphjpdnheaeghaaDoor

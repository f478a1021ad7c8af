/-
  WORDS on rows of keys that the call itself owns.
-/
import Derived.Test.YtfhaoamlagnpjaaDoorRows
import Derived.Test.YtfhaoamlagnpjaaDoorWd
import Derived.Test.YtfhaoamlagnpjaaDoorKeyRow
import Derived.Laws.OwnMore
set_option linter.unusedVariables false
set_option linter.unusedSimpArgs false
namespace Go.Proofs.YtfhaoamlagnpjaaDoor
open Go.RowKit Go.Lib
def KeyR.cs (x : KeyR) : List Value := [.string x.nm, .string x.sc]
def keyCells (xs : List KeyR) : List Value := xs.flatMap KeyR.cs
theorem keyCells_length (xs : List KeyR) : (keyCells xs).length = xs.length * 2 := by
  induction xs with
  | nil => rfl
  | cons x r ih =>
    unfold keyCells at ih ⊢
    rw [List.flatMap_cons, List.length_append, ih, List.length_cons]
    show 2 + _ = _
    omega
theorem keyCells_at (xs : List KeyR) (j i : Nat) (hj : j < xs.length) (hi : i < 2) : (keyCells xs)[j * 2 + i]? = (xs[j].cs)[i]? := by
  induction xs generalizing j with
  | nil => simp at hj
  | cons x r ih =>
    unfold keyCells at ih ⊢
    rw [List.flatMap_cons]
    have hx : x.cs.length = 2 := rfl
    cases j with
    | zero =>
      rw [List.getElem?_append_left (by omega)]
      simp
    | succ j =>
      rw [List.getElem?_append_right (by omega), hx]
      have e : (j + 1) * 2 + i - 2 = j * 2 + i := by omega
      rw [e, ih j (by simpa using hj)]
      rfl
theorem keyCells_app (a b : List KeyR) : keyCells (a ++ b) = keyCells a ++ keyCells b := by unfold keyCells; rw [List.flatMap_append]
def OwnK (w : World) (base : Nat) (v : Value) (xs : List KeyR) : Prop := w.ownsRow base 27 2 v xs.length (keyCells xs)
theorem OwnK.nil (w : World) (base : Nat) : OwnK w base (.slice none 0 0) [] := World.ownsRow_nil w base _ _
theorem OwnK.form {w : World} {base : Nat} {v : Value} {xs : List KeyR} (h : OwnK w base v xs) : (v = .slice none 0 0 ∧ xs = []) ∨ ∃ g cap, v = .slice (some ⟨g, 0, none⟩) xs.length cap ∧ base ≤ g ∧ g < w.heap.size ∧ xs.length ≤ cap := by
  rcases h.2 with ⟨rfl, hn⟩ | ⟨g, cap, cur, rfl, hb, hg, hnc, _⟩
  · exact .inl ⟨rfl, List.eq_nil_of_length_eq_zero hn⟩
  · exact .inr ⟨g, cap, rfl, hb, (Array.getElem?_eq_some_iff.1 hg).1, hnc⟩
theorem OwnK.some {w : World} {base : Nat} {v : Value} {xs : List KeyR} (h : OwnK w base v xs) (hne : xs ≠ []) : ∃ g cap, v = .slice (some ⟨g, 0, none⟩) xs.length cap ∧ base ≤ g ∧ g < w.heap.size ∧ xs.length ≤ cap := by
  rcases h.form with ⟨_, he⟩ | h
  · exact absurd he hne
  · exact h
theorem OwnK.below {w w' : World} {base : Nat} {v : Value} {xs : List KeyR} (h : OwnK w base v xs) (hb : Below w.heap.size w w') : OwnK w' base v xs :=
  World.ownsRow.kept h (only_of_below hb none) (by cases hv : v.ownBlock <;> simp)
theorem OwnK.alloc {w : World} {base : Nat} {v : Value} {xs : List KeyR} (h : OwnK w base v xs) (o : Obj) : OwnK (w.alloc o) base v xs := World.ownsRow.alloc h o
theorem OwnK.drewN {w : World} {base : Nat} {v : Value} {xs : List KeyR} (h : OwnK w base v xs) (n : Nat) : OwnK (w.drewN n) base v xs := h
theorem OwnK.lt {w : World} {base : Nat} {v : Value} {xs : List KeyR} (h : OwnK w base v xs) : ∀ k, v.ownBlock = Option.some k → base ≤ k ∧ k < w.heap.size := World.ownsRow.lt h
theorem OwnK.cell {w : World} {base g n cap : Nat} {xs : List KeyR} (h : OwnK w base (.slice (Option.some ⟨g, 0, Option.none⟩) n cap) xs) (j i : Nat) (hj : j < xs.length) (hi : i < 2) : w.cell? ⟨g, j * 2 + i, Option.none⟩ = (xs[j].cs)[i]? := by
  have hn : n = xs.length := by
    rcases h.form with ⟨hv, he⟩ | ⟨g', cap', hv, _⟩
    · cases hv
    · injection hv
  subst hn
  rw [World.ownsRow.cellAt h (j * 2 + i) (by omega)]
  exact keyCells_at xs j i hj hi
theorem OwnK.keys {w : World} {base g n cap : Nat} {xs : List KeyR} (h : OwnK w base (.slice (Option.some ⟨g, 0, Option.none⟩) n cap) xs) (m c : Nat) (hm : m ≤ xs.length) : KeysAt w (.slice (Option.some ⟨g, 0, Option.none⟩) m c) (xs.take m) := by
  refine ⟨Option.some ⟨g, 0, Option.none⟩, c, by rw [List.length_take, Nat.min_eq_left hm], fun j hj => ⟨_, rfl, ?_, ?_⟩⟩
  all_goals rw [List.length_take] at hj
  · have hadd : (⟨g, 0, Option.none⟩ : Addr).add (j * 2) = ⟨g, j * 2, Option.none⟩ := by unfold Addr.add; split <;> simp_all
    rw [hadd, List.getElem_take]
    exact h.cell j 0 (by omega) (by omega)
  · have hadd : (⟨g, 0, Option.none⟩ : Addr).add (j * 2 + 1) = ⟨g, j * 2 + 1, Option.none⟩ := by unfold Addr.add; split <;> simp_all
    rw [hadd, List.getElem_take]
    exact h.cell j 1 (by omega) (by omega)
theorem OwnK.store {w : World} {base g n cap : Nat} {xs : List KeyR} (h : OwnK w base (.slice (Option.some ⟨g, 0, Option.none⟩) n cap) xs) (x : ByteArray) (k : KeyR) (r : List KeyR) (hx : xs = k :: r) : OwnK (w.setCell ⟨g, 0, Option.none⟩ (.string x)) base (.slice (Option.some ⟨g, 0, Option.none⟩) n cap) (⟨x, k.sc⟩ :: r) := by
  have hl : n = xs.length := by
    rcases h.form with ⟨hv, he⟩ | ⟨g', cap', hv, _⟩
    · cases hv
    · injection hv
  subst hl
  subst hx
  have hs := (World.ownsRow.stored h 0 (.string x)).1
  exact hs
theorem keyInfo : (Tryd.prog.info? 27).map (fun i => (i.zero, i.size, i.bytes)) = Option.some (Option.some (.agg #[.string ⟨#[]⟩, .string ⟨#[]⟩]), 2, 32) := by kernel_rfl
theorem KeysAt.reads {w : World} {A : Option Addr} {m c : Nat} {ks : List KeyR} (h : KeysAt w (.slice A m c) ks) : m = ks.length ∧ Reads w w.heap.size 2 A m (keyCells ks) := by
  obtain ⟨A', c', hv, hc⟩ := h
  injection hv with e1 e2 e3
  subst e1 e2 e3
  refine ⟨rfl, keyCells_length ks, fun h0 => ?_⟩
  obtain ⟨a, rfl, h1, -⟩ := hc 0 h0
  have hb := World.block_lt_of_cell? w _ h1
  rw [block_of_add] at hb
  refine ⟨a, rfl, hb, fun j u hu => ?_⟩
  have hjl : j < (keyCells ks).length := (List.getElem?_eq_some_iff.1 hu).1
  rw [keyCells_length] at hjl
  have ej : j = j / 2 * 2 + j % 2 := by omega
  have hj2 : j / 2 < ks.length := by omega
  obtain ⟨a', ha, h2, h3⟩ := hc (j / 2) hj2
  injection ha with ha
  subst ha
  rw [ej, keyCells_at ks (j / 2) (j % 2) hj2 (by omega)] at hu
  rcases Nat.mod_two_eq_zero_or_one j with h01 | h01
  · rw [h01] at hu
    rw [ej, h01]
    rw [show j / 2 * 2 + 0 = j / 2 * 2 from rfl, h2]
    exact hu
  · rw [h01] at hu
    rw [ej, h01, h3]
    exact hu
theorem key_one (xs : List KeyR) : ∀ u ∈ keyCells xs, u.oneCell' = true := by
  intro u hu
  unfold keyCells at hu
  obtain ⟨x, -, hx⟩ := List.mem_flatMap.1 hu
  simp [KeyR.cs] at hx
  rcases hx with rfl | rfl <;> rfl
/-- append(v, x...) of keys. -/
theorem wpList_appK {ops : Array Oper} {rest : List Oper} {o : Oper} {a : Act} {Q : Exit → Act → World → Prop} (w : World) (hgd : o.guard = Option.none) (s x : Operand)
    (ho : o.op = .call { callee := .builtin .append, args := #[s, x], argTypes := #[45, 45] })
    {base : Nat} {v : Value} {es : List KeyR} (hown : OwnK w base v es) (hs : a.eval s = v) {A : Option Addr} {m c : Nat} {es2 : List KeyR} (hr : KeysAt w (.slice A m c) es2) (hx : a.eval x = .slice A m c)
    (h47 : es.length + es2.length ≤ 1099511627776) (hbase : base ≤ w.heap.size)
    (h : ∀ v' w', OwnK w' base v' (es ++ es2) → w.grownBy w' v.ownBlock → (v'.ownBlock = v.ownBlock ∨ v'.ownBlock = Option.some w.heap.size) → wpList Tryd.prog ops Q rest (a.put o.dst v') w') : wpList Tryd.prog ops Q (o :: rest) a w := by
  obtain ⟨i, hi, hz, hs1, hb1⟩ := info_parts keyInfo
  obtain ⟨hm, hrd⟩ := hr.reads
  refine wpList_append_any (w := w) hgd s x 45 ho base 27 i _ 2 32 Tryd.underlying45 hi hz hs1 hb1 rfl (by decide) v es.length (keyCells es) hs hown w.heap.size A m c (keyCells es2) hx hrd (key_one _) ?_ ?_ hbase ?_
  · simp only [maxLen]; omega
  · omega
  · intro v' w' h1 h2 h3
    refine h v' w' ?_ h2 h3
    unfold OwnK
    rw [keyCells_app, List.length_append, ← hm]
    exact h1
/-- append(v, x), x one key in a new block of its own. -/
theorem wpList_appK1 {ops : Array Oper} {rest : List Oper} {o : Oper} {a : Act} {Q : Exit → Act → World → Prop} (w : World) (hgd : o.guard = Option.none) (s x : Operand)
    (ho : o.op = .call { callee := .builtin .append, args := #[s, x], argTypes := #[45, 45] })
    {base : Nat} {v : Value} {es : List KeyR} (hown : OwnK w base v es) (hs : a.eval s = v) {y : KeyR} (hx : a.eval x = .slice (Option.some ⟨w.heap.size, 0, Option.none⟩) 1 1)
    (h47 : es.length + 1 ≤ 1099511627776) (hbase : base ≤ w.heap.size)
    (h : ∀ v' w', OwnK w' base v' (es ++ [y]) → (w.alloc (.cells #[.string y.nm, .string y.sc] 27)).grownBy w' v.ownBlock → (v'.ownBlock = v.ownBlock ∨ v'.ownBlock = Option.some (w.heap.size + 1)) → wpList Tryd.prog ops Q rest (a.put o.dst v') w') :
    wpList Tryd.prog ops Q (o :: rest) a (w.alloc (.cells #[.string y.nm, .string y.sc] 27)) := by
  refine wpList_appK _ hgd s x ho (hown.alloc _) hs (es2 := [y]) ⟨Option.some ⟨w.heap.size, 0, Option.none⟩, 1, rfl, fun j hj => ⟨_, rfl, ?_, ?_⟩⟩ hx (by simpa using h47) (by simp; omega) (fun v' w' h1 h2 h3 => h v' w' h1 h2 (by simpa using h3))
  all_goals obtain rfl : j = 0 := by simp at hj; exact hj
  · have hadd : (⟨w.heap.size, 0, Option.none⟩ : Addr).add (0 * 2) = ⟨w.heap.size, 0, Option.none⟩ := by unfold Addr.add; simp
    rw [hadd, (Blk.new w 27 #[.string y.nm, .string y.sc]).cell 0]
    rfl
  · have hadd : (⟨w.heap.size, 0, Option.none⟩ : Addr).add (0 * 2 + 1) = ⟨w.heap.size, 1, Option.none⟩ := by unfold Addr.add; simp
    rw [hadd, (Blk.new w 27 #[.string y.nm, .string y.sc]).cell 1]
    rfl
end Go.Proofs.YtfhaoamlagnpjaaDoor

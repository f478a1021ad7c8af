/-
  WORDS on signatures: as values, and rows of them that the call itself owns.
-/
import Derived.Test.YtfhaoamlagnpjaaDoorRows
import Derived.Test.YtfhaoamlagnpjaaDoorWd
import Derived.Laws.OwnMore
set_option linter.unusedVariables false
set_option linter.unusedSimpArgs false
namespace Go.Proofs.YtfhaoamlagnpjaaDoor
open Go.RowKit Go.Lib
/-- A signature. -/
structure SigR where
  nm : ByteArray
  id : ByteArray
  mc : ByteArray
def SigR.cs (x : SigR) : List Value := [.string x.nm, .string x.id, .string x.mc]
def sigV (x : SigR) : Value := .agg #[.string x.nm, .string x.id, .string x.mc]
def sigCells (xs : List SigR) : List Value := xs.flatMap SigR.cs
theorem sigCells_length (xs : List SigR) : (sigCells xs).length = xs.length * 3 := by
  induction xs with
  | nil => rfl
  | cons x r ih =>
    unfold sigCells at ih ⊢
    rw [List.flatMap_cons, List.length_append, ih, List.length_cons]
    show 3 + _ = _
    omega
theorem sigCells_at (xs : List SigR) (j i : Nat) (hj : j < xs.length) (hi : i < 3) : (sigCells xs)[j * 3 + i]? = (xs[j].cs)[i]? := by
  induction xs generalizing j with
  | nil => simp at hj
  | cons x r ih =>
    unfold sigCells at ih ⊢
    rw [List.flatMap_cons]
    have hx : x.cs.length = 3 := rfl
    cases j with
    | zero =>
      rw [List.getElem?_append_left (by omega)]
      simp
    | succ j =>
      rw [List.getElem?_append_right (by omega), hx]
      have e : (j + 1) * 3 + i - 3 = j * 3 + i := by omega
      rw [e, ih j (by simpa using hj)]
      rfl
/-- A row of signatures that the call owns. -/
def OwnG (w : World) (base : Nat) (v : Value) (xs : List SigR) : Prop := w.ownsRow base 71 3 v xs.length (sigCells xs)
theorem OwnG.nil (w : World) (base : Nat) : OwnG w base (.slice none 0 0) [] := World.ownsRow_nil w base _ _
theorem OwnG.form {w : World} {base : Nat} {v : Value} {xs : List SigR} (h : OwnG w base v xs) : (v = .slice none 0 0 ∧ xs = []) ∨ ∃ g cap, v = .slice (some ⟨g, 0, none⟩) xs.length cap ∧ base ≤ g ∧ g < w.heap.size ∧ xs.length ≤ cap := by
  rcases h.2 with ⟨rfl, hn⟩ | ⟨g, cap, cur, rfl, hb, hg, hnc, _⟩
  · exact .inl ⟨rfl, List.eq_nil_of_length_eq_zero hn⟩
  · exact .inr ⟨g, cap, rfl, hb, (Array.getElem?_eq_some_iff.1 hg).1, hnc⟩
theorem OwnG.slice {w : World} {base : Nat} {v : Value} {xs : List SigR} (h : OwnG w base v xs) : ∃ A c, v = .slice A xs.length c := by
  rcases h.form with ⟨hv, he⟩ | ⟨g, cap, hv, -⟩
  · exact ⟨none, 0, by rw [hv, he]; rfl⟩
  · exact ⟨_, cap, hv⟩
theorem OwnG.below {w w' : World} {base : Nat} {v : Value} {xs : List SigR} (h : OwnG w base v xs) (hb : Below w.heap.size w w') : OwnG w' base v xs :=
  World.ownsRow.kept h (only_of_below hb none) (by cases hv : v.ownBlock <;> simp)
theorem OwnG.alloc {w : World} {base : Nat} {v : Value} {xs : List SigR} (h : OwnG w base v xs) (o : Obj) : OwnG (w.alloc o) base v xs := World.ownsRow.alloc h o
theorem OwnG.drew {w : World} {base : Nat} {v : Value} {xs : List SigR} (h : OwnG w base v xs) : OwnG w.drew base v xs := h
theorem OwnG.drewN {w : World} {base : Nat} {v : Value} {xs : List SigR} (h : OwnG w base v xs) (n : Nat) : OwnG (w.drewN n) base v xs := h
theorem OwnG.lt {w : World} {base : Nat} {v : Value} {xs : List SigR} (h : OwnG w base v xs) : ∀ k, v.ownBlock = some k → base ≤ k ∧ k < w.heap.size := World.ownsRow.lt h
theorem OwnG.mono {w : World} {base base' : Nat} {v : Value} {xs : List SigR} (h : OwnG w base v xs) (hb : base' ≤ base) : OwnG w base' v xs := by
  refine ⟨h.1, ?_⟩
  rcases h.2 with h2 | ⟨g, cap, cur, h1, h2, h3⟩
  · exact .inl h2
  · exact .inr ⟨g, cap, cur, h1, by omega, h3⟩
theorem OwnG.cell {w : World} {base g n cap : Nat} {xs : List SigR} (h : OwnG w base (.slice (some ⟨g, 0, none⟩) n cap) xs) (j i : Nat) (hj : j < xs.length) (hi : i < 3) : w.cell? ⟨g, j * 3 + i, none⟩ = (xs[j].cs)[i]? := by
  have hn : n = xs.length := by
    rcases h.form with ⟨hv, he⟩ | ⟨g', cap', hv, _⟩
    · cases hv
    · injection hv
  subst hn
  rw [World.ownsRow.cellAt h (j * 3 + i) (by omega)]
  exact sigCells_at xs j i hj hi
theorem sigInfo : (Tryd.prog.info? 71).map (fun i => (i.zero, i.size, i.bytes)) = some (some (.agg #[.string ⟨#[]⟩, .string ⟨#[]⟩, .string ⟨#[]⟩]), 3, 48) := by kernel_rfl
/-- append(v, x), x one signature in a new block of its own. -/
theorem wpList_appG1 {ops : Array Oper} {rest : List Oper} {o : Oper} {a : Act} {Q : Exit → Act → World → Prop} (w : World) (hgd : o.guard = none) (s x : Operand)
    (ho : o.op = .call { callee := .builtin .append, args := #[s, x], argTypes := #[51, 51] })
    {base : Nat} {v : Value} {xs : List SigR} (hown : OwnG w base v xs) (hs : a.eval s = v) {y : SigR} (hx : a.eval x = .slice (some ⟨w.heap.size, 0, none⟩) 1 1)
    (h47 : xs.length + 1 ≤ 1099511627776) (hbase : base ≤ w.heap.size)
    (h : ∀ v' w', OwnG w' base v' (xs ++ [y]) → (w.alloc (.cells #[.string y.nm, .string y.id, .string y.mc] 71)).grownBy w' v.ownBlock → (v'.ownBlock = v.ownBlock ∨ v'.ownBlock = some (w.heap.size + 1)) → wpList Tryd.prog ops Q rest (a.put o.dst v') w') :
    wpList Tryd.prog ops Q (o :: rest) a (w.alloc (.cells #[.string y.nm, .string y.id, .string y.mc] 71)) := by
  obtain ⟨i, hi, hz, hs1, hb1⟩ := info_parts sigInfo
  have hrd : Reads (w.alloc (.cells #[.string y.nm, .string y.id, .string y.mc] 71)) (w.heap.size + 1) 3 (some ⟨w.heap.size, 0, none⟩) 1 y.cs := by
    refine ⟨rfl, fun _ => ⟨_, rfl, Nat.lt_succ_self _, fun j u hu => ?_⟩⟩
    have hadd : (⟨w.heap.size, 0, none⟩ : Addr).add j = ⟨w.heap.size, j, none⟩ := by unfold Addr.add; split <;> simp_all
    rw [hadd, (Blk.new w 71 _).cell j, ← hu]
    simp [SigR.cs]
  refine wpList_append_any (w := w.alloc _) hgd s x 51 ho base 71 i _ 3 48 Tryd.underlying51 hi hz hs1 hb1 rfl (by decide) v xs.length (sigCells xs) hs (hown.alloc _) (w.heap.size + 1) _ 1 1 y.cs hx hrd ?_ ?_ ?_ (by simp; omega) ?_
  · intro u hu
    simp [SigR.cs] at hu
    rcases hu with rfl | rfl | rfl <;> rfl
  · simp only [maxLen]; omega
  · omega
  · intro v' w' h1 h2 h3
    refine h v' w' ?_ h2 (by simpa using h3)
    unfold OwnG
    rw [List.length_append]
    have e : sigCells (xs ++ [y]) = sigCells xs ++ y.cs := by unfold sigCells; rw [List.flatMap_append]; simp
    rw [e]
    exact h1
end Go.Proofs.YtfhaoamlagnpjaaDoor

/-
  LAWS for apart: an append onto an own row that tells its two ways apart; rows of rows.
-/
import Derived.Test.YtphjpdnheaeghaaDoorRows
import Derived.Test.YtphjpdnheaeghaaDoorWd
import Derived.Test.YtphjpdnheaeghaaDoorTwinI
import Derived.Test.YtphjpdnheaeghaaDoorApartP
import Derived.ArgAppend
import Derived.Deep.DeepAppendRoom
set_option linter.unusedVariables false
set_option linter.unusedSimpArgs false
namespace Go.Proofs.YtphjpdnheaeghaaDoor
open Go.RowKit Go.Lib
/-- Behind an append of one cell: in its place, or in a new block. -/
def Grew (W w' : World) (base : Nat) (T : TypeId) (v v' : Value) (n : Nat) (xs : List Value) (x : Value) : Prop :=
  (∃ g c, v = .slice (some ⟨g, 0, none⟩) n c ∧ v' = .slice (some ⟨g, 0, none⟩) (n + 1) c ∧ w'.ownsRow base T 1 (.slice (some ⟨g, 0, none⟩) (n + 1) c) (n + 1) (xs ++ [x]) ∧ W.grownBy w' (some g)) ∨
  (w'.ownsRow W.heap.size T 1 v' (n + 1) (xs ++ [x]) ∧ W.grownBy w' none)
set_option maxRecDepth 100000 in
theorem wpList_ap1 {ops : Array Oper} {rest : List Oper} {o : Oper} {a : Act} {Q : Exit → Act → World → Prop} (W : World) (hgd : o.guard = none) (s x : Operand) (t T : TypeId)
    (ho : o.op = .call { callee := .builtin .append, args := #[s, x], argTypes := #[t, t] }) (z : Value) (by_ : Nat) (ht : Tryd.prog.underlying t = some (.slice T)) (hinfo : (Tryd.prog.info? T).map (fun i => (i.zero, i.size, i.bytes)) = some (some z, 1, by_)) (hzs : z.cells.size = 1)
    {base n : Nat} {v : Value} {xs : List Value} (hown : W.ownsRow base T 1 v n xs) (hs : a.eval s = v) {q : Nat} {u : Value} (hu : W.cell? ⟨q, 0, none⟩ = some u) (hu1 : u.oneCell' = true) (hx : a.eval x = .slice (some ⟨q, 0, none⟩) 1 1)
    (h47 : (n + 1) * by_ ≤ 140737488355328) (hmx : n + 1 ≤ 4398046511104)
    (h : ∀ v' w', Grew W w' base T v v' n xs u → wpList Tryd.prog ops Q rest (a.put o.dst v') w') : wpList Tryd.prog ops Q (o :: rest) a W := by
  obtain ⟨i, hi, hz, hs1, hb1⟩ := info_parts hinfo
  have hnews : ∀ j y, ([u] : List Value)[j]? = some y → W.cell? ((⟨q, 0, none⟩ : Addr).add j) = some y := fun j y hj => by
    obtain ⟨hj2, rfl⟩ := List.getElem?_eq_some_iff.1 hj
    obtain rfl : j = 0 := by simpa using hj2
    have hadd : (⟨q, 0, none⟩ : Addr).add 0 = ⟨q, 0, none⟩ := by unfold Addr.add; simp
    rw [hadd]; exact hu
  have hone : ∀ y ∈ ([u] : List Value), y.oneCell' = true := fun y hy => by rw [List.mem_singleton] at hy; subst hy; exact hu1
  have hmx2 : n + 1 ≤ maxLen := by simp only [maxLen]; omega
  rcases id hown.2 with ⟨rfl, rfl⟩ | ⟨g, cap, cur, rfl, hb, hg, hnc, hcm, hcs, htk⟩
  · obtain rfl : xs = [] := List.eq_nil_of_length_eq_zero (by simpa using hown.1)
    refine wpList_append_grows W hgd s x t ho T i z 1 by_ ht hi hz hs1 hb1 hzs (by decide) none 0 0 [] hs (fun _ => ⟨rfl, rfl⟩) rfl (fun b hb => by cases hb) ⟨q, 0, none⟩ 1 1 [u] hx rfl hnews hone (by omega) hmx2 h47 (fun v' w' h1 h2 => h v' w' (.inr ⟨h1, h2⟩))
  · by_cases hr : n + 1 ≤ cap
    · refine wpList_append_own_spare W hgd s x t ho base T i 1 ht hi hs1 g n cap xs hs hown ⟨q, 0, none⟩ 1 1 [u] hx rfl hnews hone hr (fun w' h1 h2 => h _ w' (.inl ⟨g, cap, rfl, rfl, h1, h2⟩))
    · refine wpList_append_grows W hgd s x t ho T i z 1 by_ ht hi hz hs1 hb1 hzs (by decide) (some ⟨g, 0, none⟩) n cap xs hs (fun e => by cases e) hown.1 (fun b hb j y hj => ?_) ⟨q, 0, none⟩ 1 1 [u] hx rfl hnews hone (by omega) hmx2 h47 (fun v' w' h1 h2 => h v' w' (.inr ⟨h1, h2⟩))
      injection hb with hb
      subst hb
      exact World.ownsRow.cells hown rfl j y hj
theorem wpList_apT {ops : Array Oper} {rest : List Oper} {o : Oper} {a : Act} {Q : Exit → Act → World → Prop} (W : World) (hgd : o.guard = none) (s x : Operand)
    (ho : o.op = .call { callee := .builtin .append, args := #[s, x], argTypes := #[22, 22] })
    {base n : Nat} {v : Value} {xs : List Value} (hown : W.ownsRow base 9 1 v n xs) (hs : a.eval s = v) {q : Nat} {u : ByteArray} (hu : W.cell? ⟨q, 0, none⟩ = some (.string u)) (hx : a.eval x = .slice (some ⟨q, 0, none⟩) 1 1) (hmx : n + 1 ≤ 4398046511104)
    (h : ∀ v' w', Grew W w' base 9 v v' n xs (.string u) → wpList Tryd.prog ops Q rest (a.put o.dst v') w') : wpList Tryd.prog ops Q (o :: rest) a W :=
  wpList_ap1 W hgd s x 22 9 ho (.string ⟨#[]⟩) 16 Tryd.underlying22 strInfo rfl hown hs hu rfl hx (by omega) hmx h
theorem tsInfo : (Tryd.prog.info? 22).map (fun i => (i.zero, i.size, i.bytes)) = some (some (.slice none 0 0), 1, 24) := by kernel_rfl
theorem wpList_apTS {ops : Array Oper} {rest : List Oper} {o : Oper} {a : Act} {Q : Exit → Act → World → Prop} (W : World) (hgd : o.guard = none) (s x : Operand)
    (ho : o.op = .call { callee := .builtin .append, args := #[s, x], argTypes := #[62, 62] })
    {base n : Nat} {v : Value} {xs : List Value} (hown : W.ownsRow base 22 1 v n xs) (hs : a.eval s = v) {q : Nat} {u : Value} (hu : W.cell? ⟨q, 0, none⟩ = some u) (hu1 : u.oneCell' = true) (hx : a.eval x = .slice (some ⟨q, 0, none⟩) 1 1) (hmx : n + 1 ≤ 1099511627776)
    (h : ∀ v' w', Grew W w' base 22 v v' n xs u → wpList Tryd.prog ops Q rest (a.put o.dst v') w') : wpList Tryd.prog ops Q (o :: rest) a W :=
  wpList_ap1 W hgd s x 62 22 ho (.slice none 0 0) 24 Tryd.underlying62 tsInfo rfl hown hs hu hu1 hx (by omega) (by omega) h
/-- The k-th row grew. -/
theorem Ap2.grew {w W W' : World} {base : Nat} {T : TypeId} {n : Nat} {vs us us' : Nat → Value} {ms es es' : Nat → Nat} {mk : Nat → Value} (h : Ap2 w W base T n vs us ms es mk) {k : Nat} {v' : Value} (hk : k < n)
    (hg : Grew W W' base T (us k) v' (ms k + es k) (List.replicate (ms k + es k) (mk k)) (mk k))
    (hu1 : us' k = v') (hu2 : ∀ q, q ≠ k → us' q = us q) (he1 : es' k = es k + 1) (he2 : ∀ q, q ≠ k → es' q = es q) : Ap2 w W' base T n vs us' ms es' mk := by
  rcases hg with ⟨g, c, hv, rfl, ho, hg⟩ | ⟨ho, hg⟩
  · exact h.room hk hv ho hg hu1 hu2 he1 he2
  · exact h.grow hk ho hg hu1 hu2 he1 he2
theorem KeepT.grew {T : TypeId} {B base n : Nat} {a W w' : World} {v v' x : Value} {xs : List Value} (h : KeepT T B a W) (hg : Grew W w' base T v v' n xs x) (ho : W.ownsRow base T 1 v n xs) (hB : B ≤ W.heap.size) (hbase : B ≤ base) : KeepT T B a w' := by
  rcases hg with ⟨g, c, hv, rfl, ho2, hg⟩ | ⟨ho2, hg⟩
  · exact h.grown (v := v) (by rw [hv]; exact hg) hB ho hbase
  · exact h.none hg hB
theorem Grew.row {W w' : World} {base n : Nat} {T : TypeId} {v v' x : Value} {xs : List Value} (hg : Grew W w' base T v v' n xs x) (hb : base ≤ W.heap.size) : w'.ownsRow base T 1 v' (n + 1) (xs ++ [x]) := by
  rcases hg with ⟨g, c, hv, rfl, ho2, hg⟩ | ⟨ho2, hg⟩
  · exact ho2
  · exact row_mono ho2 hb
theorem KeepT.new {T : TypeId} {B : Nat} {a W w' : World} {row : Option Nat} (h : KeepT T B a W) (hg : W.grownBy w' row) (hr : ∀ g, row = some g → a.heap.size ≤ g) (hB : B ≤ a.heap.size) : KeepT T B a w' :=
  ⟨h.b.grown hg (Nat.le_trans hB h.b.size) (fun g hg => Nat.le_trans hB (hr g hg)), fun q o hq ho => by
    have h1 := h.k q o hq ho
    have hlt := (Array.getElem?_eq_some_iff.1 hq).1
    rw [hg.block q (Array.getElem?_eq_some_iff.1 h1).1 (fun e => by have := hr q e.symm; omega)]
    exact h1⟩
/-- A row of another type grew. -/
theorem Ap2.more {w W w' : World} {base : Nat} {T T' : TypeId} {n n' : Nat} {vs us : Nat → Value} {ms es : Nat → Nat} {mk : Nat → Value} (h : Ap2 w W base T n vs us ms es mk) (hT : T ≠ T') {v v' x : Value} {xs : List Value} (ho : W.ownsRow w.heap.size T' 1 v n' xs) (hg : Grew W w' w.heap.size T' v v' n' xs x) : Ap2 w w' base T n vs us ms es mk := by
  rcases hg with ⟨g, c, hv, rfl, ho2, hg⟩ | ⟨ho2, hg⟩
  · have hgv : v.ownBlock = some g := by rw [hv]; rfl
    rw [← hgv] at hg
    exact ⟨fun q hq => World.ownsRow.kept (h.v q hq) hg (row_ne (h.v q hq) ho hT), fun q hq => World.ownsRow.kept (h.u q hq) hg (row_ne (h.u q hq) ho hT), h.uu, h.uv, h.k.new hg (fun g hg => (World.ownsRow.lt ho g hg).1) h.s, h.s⟩
  · have hn : ∀ {v : Value}, v.ownBlock = none ∨ v.ownBlock ≠ none := fun {v} => by cases v.ownBlock <;> simp
    exact ⟨fun q hq => World.ownsRow.kept (h.v q hq) hg hn, fun q hq => World.ownsRow.kept (h.u q hq) hg hn, h.uu, h.uv, h.k.new hg (fun g hg => by cases hg) h.s, h.s⟩
/-- A row of slices. -/
def RowsAt (w : World) (v : Value) (n : Nat) (vs : Nat → Value) : Prop := ∃ A c, v = .slice A n c ∧ ∀ q, q < n → ∃ a, A = some a ∧ w.cell? (a.add q) = some (vs q)
theorem own_rows {w : World} {base : Nat} {T : TypeId} {v : Value} {n : Nat} {l : List Value} (h : w.ownsRow base T 1 v n l) : RowsAt w v n (fun q => l.getD q (.slice none 0 0)) := by
  have hl := h.1
  rcases id h.2 with ⟨rfl, rfl⟩ | ⟨g, cap, cur, rfl, -, -, -⟩
  · exact ⟨none, 0, rfl, fun q hq => absurd hq (by omega)⟩
  · refine ⟨_, cap, rfl, fun j hj => ⟨_, rfl, ?_⟩⟩
    have hadd : (⟨g, 0, none⟩ : Addr).add j = ⟨g, j, none⟩ := by unfold Addr.add; split <;> simp_all
    rw [hadd, World.ownsRow.cellAt h j (by omega)]
    show l[j]? = some (l.getD j (.slice none 0 0))
    rw [List.getD_eq_getElem?_getD, List.getElem?_eq_getElem (by omega)]
    rfl
theorem rows_at {w : World} {A : Option Addr} {m c n : Nat} {vs : Nat → Value} (h : RowsAt w (.slice A m c) n vs) (q : Nat) (hq : q < n) : ∃ a, A = some a ∧ w.cell? (a.add q) = some (vs q) := by
  obtain ⟨A', c', hv, hc⟩ := h
  injection hv with e1 e2 e3
  subst e1
  exact hc q hq
theorem getD_last (l : List Value) (x d : Value) (k : Nat) (h : l.length = k) : (l ++ [x]).getD k d = x := by subst h; simp
theorem getD_front (l : List Value) (x d : Value) (q : Nat) (h : q < l.length) : (l ++ [x]).getD q d = l.getD q d := by
  rw [List.getD_eq_getElem?_getD, List.getD_eq_getElem?_getD, List.getElem?_append_left h]
/-- The form of an own row. -/
theorem row_form {w : World} {base : Nat} {T : TypeId} {size n : Nat} {v : Value} {xs : List Value} (h : w.ownsRow base T size v n xs) : ∃ A c, v = .slice A n c ∧ (0 < n → ∃ g, A = some ⟨g, 0, none⟩) := by
  rcases h.2 with ⟨rfl, rfl⟩ | ⟨g, cap, cur, rfl, -, -, -⟩
  · exact ⟨none, 0, rfl, fun h => absurd h (by omega)⟩
  · exact ⟨_, cap, rfl, fun _ => ⟨g, rfl⟩⟩
theorem row_frozen {w : World} {base : Nat} {T : TypeId} {size n g c : Nat} {xs : List Value} (h : w.ownsRow base T size (.slice (some ⟨g, 0, none⟩) n c) n xs) (j : Nat) : w.frozen? ⟨g, j, none⟩ = false := by
  rcases h.2 with ⟨hv, -⟩ | ⟨g1, c1, cur, hv, -, hg, -⟩
  · cases hv
  · injection hv with e1 e2 e3
    injection e1 with e1
    injection e1 with e1
    subst e1
    exact Blk.frozen (t := T) (cs := cur) hg j
end Go.Proofs.YtphjpdnheaeghaaDoor

/-
  Several texts in one: WORDS on rows that lie apart and are written full, each with a mark of its own (for apart, apartInts). | LAWS for apart: an append onto an own row that tells its two ways apart; rows of rows.
-/
import Derived.Test.YtnkioabdpploeaaGreatDoorRows
import Derived.ArgAppend
import Derived.Deep.DeepAppendRoom
import Derived.Test.YtnkioabdpploeaaGreatDoorGBase
import Derived.Test.YtnkioabdpploeaaGreatDoorSTwinI
set_option linter.unusedVariables false
set_option linter.unusedSimpArgs false
namespace Go.Proofs.YtnkioabdpploeaaGreatDoor
open Go.RowKit Go.Lib
/-- Two slices in unlike blocks. -/
def Far (a b : Value) : Prop := ∀ g, a.ownBlock = some g → b.ownBlock ≠ some g
theorem Far.symm {a b : Value} (h : Far a b) : Far b a := fun g hb ha => h g ha hb
theorem Far.kept {a b : Value} (h : Far a b) : a.ownBlock = none ∨ a.ownBlock ≠ b.ownBlock := by
  cases ha : a.ownBlock with
  | none => exact .inl rfl
  | some g => exact .inr (fun e => h g ha e.symm)
/-- What is no row of T's is as it was; below B all is. -/
structure KeepT (T : TypeId) (B : Nat) (w w' : World) : Prop where
  b : Below B w w'
  k : ∀ (g : Nat) (o : Obj), w.heap[g]? = some o → (∀ cur, o ≠ Obj.cells cur T (0, 0)) → w'.heap[g]? = some o
theorem KeepT.refl (T : TypeId) (B : Nat) (w : World) : KeepT T B w w := ⟨Below.refl _ _, fun _ _ h _ => h⟩
theorem KeepT.trans {T : TypeId} {B : Nat} {a b c : World} (h : KeepT T B a b) (k : KeepT T B b c) : KeepT T B a c := ⟨h.b.trans k.b, fun g o hg ho => k.k g o (h.k g o hg ho) ho⟩
theorem KeepT.alloc {T : TypeId} {B : Nat} {a w : World} (h : KeepT T B a w) (hB : B ≤ w.heap.size) (o : Obj) : KeepT T B a (w.alloc o) :=
  h.trans ⟨(Below.refl _ _).alloc hB o, fun g x hg _ => by rw [Below.heap_alloc _ _ _ (Array.getElem?_eq_some_iff.1 hg).1]; exact hg⟩
theorem KeepT.drew {T : TypeId} {B : Nat} {a w : World} (h : KeepT T B a w) : KeepT T B a w.drew := ⟨h.b.drew, h.k⟩
/-- A call of no effect on what was there. -/
theorem KeepT.call {T : TypeId} {B : Nat} {a w w' : World} (h : KeepT T B a w) (hB : B ≤ w.heap.size) (hb : Below w.heap.size w w') : KeepT T B a w' :=
  h.trans ⟨hb.mono hB, fun g o hg _ => by rw [hb.block g (Array.getElem?_eq_some_iff.1 hg).1]; exact hg⟩
/-- A store into a row of T's. -/
theorem KeepT.set {T : TypeId} {B : Nat} {a w : World} (h : KeepT T B a w) {g j : Nat} {cur : Array Value} (hg : w.heap[g]? = some (.cells cur T (0, 0))) (hB : B ≤ g) (u : Value) : KeepT T B a (w.setCell ⟨g, j, none⟩ u) :=
  h.trans ⟨(Below.refl _ _).setCell (p := ⟨g, j, none⟩) hB u, fun q o hq ho => by
    rw [Below.heap_setCell _ _ _ _ (fun e => by have e : q = g := e; subst e; rw [hg] at hq; injection hq with hq; exact ho _ hq.symm)]; exact hq⟩
/-- An append onto a row of T's. -/
theorem KeepT.grown {T : TypeId} {B : Nat} {a w w' : World} {n base : Nat} {v : Value} {xs : List Value} (h : KeepT T B a w) (hg : w.grownBy w' v.ownBlock) (hB : B ≤ w.heap.size) (ho : w.ownsRow base T 1 v n xs) (hbase : B ≤ base) : KeepT T B a w' :=
  h.trans ⟨(Below.refl _ _).grown hg hB (fun k hk => by have := (World.ownsRow.lt ho k hk).1; omega), fun q o hq hno => by
    rw [hg.block q (Array.getElem?_eq_some_iff.1 hq).1 (fun e2 => by
      rcases ho.2 with ⟨rfl, -⟩ | ⟨g, cap, cur, rfl, -, hgg, -⟩
      · simp [Value.ownBlock] at e2
      · simp only [Value.ownBlock, Option.some.injEq] at e2
        subst e2
        rw [hgg] at hq
        injection hq with hq
        exact hno _ hq.symm)]
    exact hq⟩
theorem KeepT.none {T : TypeId} {B : Nat} {a w w' : World} (h : KeepT T B a w) (hg : w.grownBy w' none) (hB : B ≤ w.heap.size) : KeepT T B a w' :=
  h.trans ⟨(Below.refl _ _).grown hg hB (fun k hk => by cases hk), fun q o hq _ => by
    rw [hg.block q (Array.getElem?_eq_some_iff.1 hq).1 (by simp)]; exact hq⟩
/-- A row of another type stays. -/
theorem KeepT.row {T : TypeId} {B : Nat} {w w' : World} (h : KeepT T B w w') {e : TypeId} (he : e ≠ T) {base size n : Nat} {v : Value} {xs : List Value} (ho : w.ownsRow base e size v n xs) : w'.ownsRow base e size v n xs := by
  refine ⟨ho.1, ?_⟩
  rcases ho.2 with h2 | ⟨g, cap, cur, rfl, hb1, hg, rest⟩
  · exact .inl h2
  · exact .inr ⟨g, cap, cur, rfl, hb1, h.k g _ hg (fun cur' e' => by injection e' with _ e2 _; exact he e2), rest⟩
/-- A cell of an own row is written. -/
theorem row_set {w : World} {base : Nat} {T : TypeId} {n g cap : Nat} {xs : List Value} (h : w.ownsRow base T 1 (.slice (some ⟨g, 0, none⟩) n cap) n xs) (j : Nat) (hj : j < n) (u : Value) :
    (w.setCell ⟨g, j, none⟩ u).ownsRow base T 1 (.slice (some ⟨g, 0, none⟩) n cap) n (xs.set j u) := by
  refine ⟨by rw [List.length_set]; exact h.1, ?_⟩
  rcases h.2 with ⟨hv, -⟩ | ⟨g', cap', cur, hv, hb, hg, hnc, hcm, hcs, ht⟩
  · cases hv
  · injection hv with e1 e2 e3
    injection e1 with e1
    injection e1 with e1
    subst e1 e3
    refine .inr ⟨g, cap, cur.set! j u, rfl, hb, ?_, hnc, hcm, by simpa using hcs, ?_⟩
    · simp only [World.setCell, Array.getElem?_modify]
      rw [hg]
      simp
    · rw [← ht]
      apply List.ext_getElem?
      intro i
      simp only [Array.set!_eq_setIfInBounds, Array.toList_setIfInBounds, List.getElem?_take, List.getElem?_set, List.length_take, Array.length_toList]
      repeat' split
      all_goals first | rfl | omega | simp_all
theorem row_store_ne {w : World} {base : Nat} {e : TypeId} {size n : Nat} {v : Value} {xs : List Value} (h : w.ownsRow base e size v n xs) {g j : Nat} (hne : v.ownBlock ≠ some g) (u : Value) : (w.setCell ⟨g, j, none⟩ u).ownsRow base e size v n xs := by
  refine ⟨h.1, ?_⟩
  rcases h.2 with h2 | ⟨q, cap, cur, rfl, hb1, hg, rest⟩
  · exact .inl h2
  · exact .inr ⟨q, cap, cur, rfl, hb1, (Below.heap_setCell w ⟨g, j, none⟩ u q (fun e => hne (by simp [Value.ownBlock]; exact e))).trans hg, rest⟩
/-- The beginning of a row that was made longer in place. -/
theorem row_front {w : World} {base : Nat} {T : TypeId} {g n m cap : Nat} {x : Value} (h : w.ownsRow base T 1 (.slice (some ⟨g, 0, none⟩) n cap) n (List.replicate n x)) (hm : m ≤ n) : w.ownsRow base T 1 (.slice (some ⟨g, 0, none⟩) m cap) m (List.replicate m x) := by
  refine ⟨by simp, ?_⟩
  rcases h.2 with ⟨hv, -⟩ | ⟨g', cap', cur, hv, hb, hg, hnc, hcm, hcs, ht⟩
  · cases hv
  · injection hv with e1 e2 e3
    injection e1 with e1
    injection e1 with e1
    subst e1 e3
    refine .inr ⟨g, cap, cur, rfl, hb, hg, by omega, hcm, hcs, ?_⟩
    have h2 := congrArg (List.take m) ht
    rw [List.take_take, List.take_replicate] at h2
    rw [show m * 1 = min m (n * 1) by omega, h2]
    congr 1; omega
theorem row_cap {w : World} {base base' : Nat} {T : TypeId} {g n m c d : Nat} {xs ys : List Value} (h : w.ownsRow base T 1 (.slice (some ⟨g, 0, none⟩) n c) n xs) (h' : w.ownsRow base' T 1 (.slice (some ⟨g, 0, none⟩) m d) m ys) : c = d := by
  rcases h.2 with ⟨hv, -⟩ | ⟨g1, c1, cur, hv, -, hg, -, -, hcs, -⟩
  · cases hv
  · rcases h'.2 with ⟨hv', -⟩ | ⟨g2, c2, cur2, hv', -, hg', -, -, hcs', -⟩
    · cases hv'
    · injection hv with e1 e2 e3
      injection e1 with e1
      injection e1 with e1
      injection hv' with f1 f2 f3
      injection f1 with f1
      injection f1 with f1
      subst e1 e3 f1 f3
      rw [hg] at hg'
      injection hg' with hg'
      injection hg' with hg' _ _
      subst hg'
      omega
/-- The first loop: of the q-th row the first f q cells hold its mark. -/
structure Ap1 (w W : World) (base : Nat) (T : TypeId) (n : Nat) (vs : Nat → Value) (ms : Nat → Nat) (mk : Nat → Value) (f : Nat → Nat) : Prop where
  v : ∀ q, q < n → ∃ l, W.ownsRow base T 1 (vs q) (ms q) l ∧ ∀ i, i < f q → l[i]? = some (mk q)
  d : ∀ q, q < n → ∀ q', q' < n → q ≠ q' → Far (vs q) (vs q')
  k : KeepT T base w W
  s : base ≤ w.heap.size
theorem Ap1.hs {w W : World} {base : Nat} {T : TypeId} {n : Nat} {vs : Nat → Value} {ms : Nat → Nat} {mk : Nat → Value} {f : Nat → Nat} (h : Ap1 w W base T n vs ms mk f) : base ≤ W.heap.size := Nat.le_trans h.s h.k.b.size
theorem Ap1.call {w W W' : World} {base : Nat} {T : TypeId} {n : Nat} {vs : Nat → Value} {ms : Nat → Nat} {mk : Nat → Value} {f : Nat → Nat} (h : Ap1 w W base T n vs ms mk f) (hb : Below W.heap.size W W') : Ap1 w W' base T n vs ms mk f :=
  ⟨fun q hq => by obtain ⟨l, h1, h2⟩ := h.v q hq; exact ⟨l, row_low h1 (fun k hk => (World.ownsRow.lt h1 k hk).2) hb, h2⟩, h.d, h.k.call h.hs hb, h.s⟩
/-- The k-th row's next cell is written. -/
theorem Ap1.set {w W : World} {base : Nat} {T : TypeId} {n : Nat} {vs : Nat → Value} {ms : Nat → Nat} {mk : Nat → Value} {f f' : Nat → Nat} (h : Ap1 w W base T n vs ms mk f) {k g c j : Nat} (hk : k < n) (hv : vs k = .slice (some ⟨g, 0, none⟩) (ms k) c) (hj : f k = j) (hf : j < ms k)
    (hf1 : f' k = j + 1) (hf2 : ∀ q, q ≠ k → f' q = f q) : Ap1 w (W.setCell ⟨g, j, none⟩ (mk k)) base T n vs ms mk f' := by
  subst hj
  obtain ⟨l, h1, h2⟩ := h.v k hk
  rw [hv] at h1
  have hgk : (vs k).ownBlock = some g := by rw [hv]; rfl
  refine ⟨fun q hq => ?_, h.d, ?_, h.s⟩
  · by_cases e : q = k
    · subst e
      refine ⟨l.set (f q) (mk q), by rw [hv]; exact row_set h1 _ hf _, fun i hi => ?_⟩
      rw [hf1] at hi
      rw [List.getElem?_set]
      have hl : l.length = ms q := by rw [h1.1]; omega
      by_cases hi2 : f q = i
      · rw [if_pos hi2, if_pos (by omega)]
      · rw [if_neg hi2]; exact h2 i (by omega)
    · obtain ⟨l', g1, g2⟩ := h.v q hq
      refine ⟨l', row_store_ne g1 (fun e2 => h.d q hq k hk e g e2 hgk) _, fun i hi => g2 i (by rw [hf2 q e] at hi; exact hi)⟩
  · rcases h1.2 with ⟨hv', -⟩ | ⟨g1, c1, cur, hv', hb, hg, -⟩
    · cases hv'
    · injection hv' with e1 e2 e3
      injection e1 with e1
      injection e1 with e1
      subst e1
      exact h.k.set hg hb _
theorem Ap1.mark {w W : World} {base : Nat} {T : TypeId} {n : Nat} {vs : Nat → Value} {ms : Nat → Nat} {mk : Nat → Value} {f f' : Nat → Nat} (h : Ap1 w W base T n vs ms mk f) (o : Obj) {u : Value} {k g c j : Nat} (hu : u = mk k) (hk : k < n) (hv : vs k = .slice (some ⟨g, 0, none⟩) (ms k) c) (hj : f k = j) (hf : j < ms k)
    (hf1 : f' k = j + 1) (hf2 : ∀ q, q ≠ k → f' q = f q) : Ap1 w ((W.alloc o).setCell ⟨g, j, none⟩ u).drew base T n vs ms mk f' := by
  subst hu
  have h1 := (h.call ((Below.refl W.heap.size W).alloc (Nat.le_refl _) o)).set (f' := f') hk hv hj hf hf1 hf2
  exact ⟨h1.v, h1.d, h1.k.drew, h1.s⟩
theorem Ap1.next {w W : World} {base : Nat} {T : TypeId} {n : Nat} {vs : Nat → Value} {ms : Nat → Nat} {mk : Nat → Value} {f f' : Nat → Nat} (h : Ap1 w W base T n vs ms mk f) (hf : ∀ q, q < n → f' q = f q) : Ap1 w W base T n vs ms mk f' :=
  ⟨fun q hq => by obtain ⟨l, h1, h2⟩ := h.v q hq; exact ⟨l, h1, fun i hi => h2 i (by rw [hf q hq] at hi; exact hi)⟩, h.d, h.k, h.s⟩
/-- The second loop: the rows, and the rows made longer. -/
structure Ap2 (w W : World) (base : Nat) (T : TypeId) (n : Nat) (vs us : Nat → Value) (ms es : Nat → Nat) (mk : Nat → Value) : Prop where
  v : ∀ q, q < n → W.ownsRow base T 1 (vs q) (ms q) (List.replicate (ms q) (mk q))
  u : ∀ q, q < n → W.ownsRow base T 1 (us q) (ms q + es q) (List.replicate (ms q + es q) (mk q))
  uu : ∀ q, q < n → ∀ q', q' < n → q ≠ q' → Far (us q) (us q')
  uv : ∀ q, q < n → ∀ q', q' < n → q ≠ q' → Far (us q) (vs q')
  k : KeepT T base w W
  s : base ≤ w.heap.size
theorem Ap2.hs {w W : World} {base : Nat} {T : TypeId} {n : Nat} {vs us : Nat → Value} {ms es : Nat → Nat} {mk : Nat → Value} (h : Ap2 w W base T n vs us ms es mk) : base ≤ W.heap.size := Nat.le_trans h.s h.k.b.size
theorem Ap2.call {w W W' : World} {base : Nat} {T : TypeId} {n : Nat} {vs us : Nat → Value} {ms es : Nat → Nat} {mk : Nat → Value} (h : Ap2 w W base T n vs us ms es mk) (hb : Below W.heap.size W W') : Ap2 w W' base T n vs us ms es mk :=
  ⟨fun q hq => row_low (h.v q hq) (fun k hk => (World.ownsRow.lt (h.v q hq) k hk).2) hb, fun q hq => row_low (h.u q hq) (fun k hk => (World.ownsRow.lt (h.u q hq) k hk).2) hb, h.uu, h.uv, h.k.call h.hs hb, h.s⟩
/-- The same, with another naming of the rows. -/
theorem Ap2.next {w W : World} {base : Nat} {T : TypeId} {n : Nat} {vs us us' : Nat → Value} {ms es es' : Nat → Nat} {mk : Nat → Value} (h : Ap2 w W base T n vs us ms es mk) (hu : ∀ q, q < n → us' q = us q) (he : ∀ q, q < n → es' q = es q) : Ap2 w W base T n vs us' ms es' mk :=
  ⟨h.v, fun q hq => by rw [hu q hq, he q hq]; exact h.u q hq, fun q hq q' hq' e => by rw [hu q hq, hu q' hq']; exact h.uu q hq q' hq' e, fun q hq q' hq' e => by rw [hu q hq]; exact h.uv q hq q' hq' e, h.k, h.s⟩
theorem rep_app (n : Nat) (x : Value) : List.replicate n x ++ [x] = List.replicate (n + 1) x := by rw [List.replicate_succ']
/-- The k-th row is made longer in its place. -/
theorem Ap2.room {w W W' : World} {base : Nat} {T : TypeId} {n : Nat} {vs us us' : Nat → Value} {ms es es' : Nat → Nat} {mk : Nat → Value} (h : Ap2 w W base T n vs us ms es mk) {k g c : Nat} (hk : k < n) (hv : us k = .slice (some ⟨g, 0, none⟩) (ms k + es k) c)
    (ho : W'.ownsRow base T 1 (.slice (some ⟨g, 0, none⟩) (ms k + es k + 1) c) (ms k + es k + 1) (List.replicate (ms k + es k) (mk k) ++ [mk k])) (hg : W.grownBy W' (some g))
    (hu1 : us' k = .slice (some ⟨g, 0, none⟩) (ms k + es k + 1) c) (hu2 : ∀ q, q ≠ k → us' q = us q) (he1 : es' k = es k + 1) (he2 : ∀ q, q ≠ k → es' q = es q) : Ap2 w W' base T n vs us' ms es' mk := by
  have hgk : (us k).ownBlock = some g := by rw [hv]; rfl
  have hgk' : (us' k).ownBlock = some g := by rw [hu1]; rfl
  rw [rep_app] at ho
  have hub : ∀ q, (us' q).ownBlock = (us q).ownBlock := fun q => by
    by_cases e : q = k
    · subst e; rw [hgk, hgk']
    · rw [hu2 q e]
  refine ⟨fun q hq => ?_, fun q hq => ?_, fun q hq q' hq' e g1 h1 h2 => ?_, fun q hq q' hq' e g1 h1 h2 => ?_, ?_, h.s⟩
  · by_cases e : q = k
    · subst e
      by_cases e2 : (vs q).ownBlock = some g
      · rcases (h.v q hq).2 with ⟨e3, -⟩ | ⟨g3, c3, cur, e3, -⟩
        · rw [e3] at e2; simp [Value.ownBlock] at e2
        · rw [e3] at e2
          simp only [Value.ownBlock, Option.some.injEq] at e2
          subst e2
          have hc : c = c3 := row_cap (hv ▸ h.u q hq) (e3 ▸ h.v q hq)
          subst hc
          rw [e3]
          exact row_front ho (by omega)
      · exact World.ownsRow.kept (h.v q hq) hg (.inr e2)
    · exact World.ownsRow.kept (h.v q hq) hg (by rw [← hgk]; exact ((h.uv k hk q hq (Ne.symm e)).symm).kept)
  · by_cases e : q = k
    · subst e
      rw [hu1, he1]; exact ho
    · rw [hu2 q e, he2 q e]
      exact World.ownsRow.kept (h.u q hq) hg (by rw [← hgk]; exact (h.uu q hq k hk e).kept)
  · rw [hub] at h1 h2; exact h.uu q hq q' hq' e g1 h1 h2
  · rw [hub] at h1; exact h.uv q hq q' hq' e g1 h1 h2
  · exact h.k.grown (v := us k) (by rw [hgk]; exact hg) h.hs (h.u k hk) (Nat.le_refl _)
/-- The k-th row is made longer in a new block. -/
theorem Ap2.grow {w W W' : World} {base : Nat} {T : TypeId} {n : Nat} {vs us us' : Nat → Value} {ms es es' : Nat → Nat} {mk : Nat → Value} (h : Ap2 w W base T n vs us ms es mk) {k : Nat} {v' : Value} (hk : k < n)
    (ho : W'.ownsRow W.heap.size T 1 v' (ms k + es k + 1) (List.replicate (ms k + es k) (mk k) ++ [mk k])) (hg : W.grownBy W' none)
    (hu1 : us' k = v') (hu2 : ∀ q, q ≠ k → us' q = us q) (he1 : es' k = es k + 1) (he2 : ∀ q, q ≠ k → es' q = es q) : Ap2 w W' base T n vs us' ms es' mk := by
  rw [rep_app] at ho
  have hkeep : ∀ {v : Value} {m : Nat} {xs : List Value}, W.ownsRow base T 1 v m xs → W'.ownsRow base T 1 v m xs := fun h => World.ownsRow.kept h hg (by rename_i v _ _; cases v.ownBlock <;> simp)
  have hnew : ∀ g, (us' k).ownBlock = some g → W.heap.size ≤ g := fun g hg1 => by rw [hu1] at hg1; exact (World.ownsRow.lt ho g hg1).1
  refine ⟨fun q hq => hkeep (h.v q hq), fun q hq => ?_, fun q hq q' hq' e g1 h1 h2 => ?_, fun q hq q' hq' e g1 h1 h2 => ?_, h.k.none hg h.hs, h.s⟩
  · by_cases e : q = k
    · subst e
      rw [hu1, he1]; exact row_mono ho h.hs
    · rw [hu2 q e, he2 q e]; exact hkeep (h.u q hq)
  · by_cases e1 : q = k
    · subst e1
      have := hnew g1 h1
      rw [hu2 q' (Ne.symm e)] at h2
      have := (World.ownsRow.lt (h.u q' hq') g1 h2).2
      omega
    · rw [hu2 q e1] at h1
      by_cases e2 : q' = k
      · subst e2
        have := hnew g1 h2
        have := (World.ownsRow.lt (h.u q hq) g1 h1).2
        omega
      · rw [hu2 q' e2] at h2
        exact h.uu q hq q' hq' e g1 h1 h2
  · by_cases e1 : q = k
    · subst e1
      have := hnew g1 h1
      have := (World.ownsRow.lt (h.v q' hq') g1 h2).2
      omega
    · rw [hu2 q e1] at h1
      exact h.uv q hq q' hq' e g1 h1 h2
end Go.Proofs.YtnkioabdpploeaaGreatDoor

set_option linter.unusedVariables false
set_option linter.unusedSimpArgs false
namespace Go.Proofs.YtnkioabdpploeaaGreatDoor
open Go.RowKit Go.Lib
/-- Behind an append of one cell: in its place, or in a new block. -/
def Grew (W w' : World) (base : Nat) (T : TypeId) (v v' : Value) (n : Nat) (xs : List Value) (x : Value) : Prop :=
  (∃ g c, v = .slice (some ⟨g, 0, none⟩) n c ∧ v' = .slice (some ⟨g, 0, none⟩) (n + 1) c ∧ w'.ownsRow base T 1 (.slice (some ⟨g, 0, none⟩) (n + 1) c) (n + 1) (xs ++ [x]) ∧ W.grownBy w' (some g)) ∨
  (w'.ownsRow W.heap.size T 1 v' (n + 1) (xs ++ [x]) ∧ W.grownBy w' none)
/-- The k-th row grew. -/
theorem Ap2.grew {w W W' : World} {base : Nat} {T : TypeId} {n : Nat} {vs us us' : Nat → Value} {ms es es' : Nat → Nat} {mk : Nat → Value} (h : Ap2 w W base T n vs us ms es mk) {k : Nat} {v' : Value} (hk : k < n)
    (hg : Grew W W' base T (us k) v' (ms k + es k) (List.replicate (ms k + es k) (mk k)) (mk k))
    (hu1 : us' k = v') (hu2 : ∀ q, q ≠ k → us' q = us q) (he1 : es' k = es k + 1) (he2 : ∀ q, q ≠ k → es' q = es q) : Ap2 w W' base T n vs us' ms es' mk := by
  rcases hg with ⟨g, c, hv, rfl, ho, hg⟩ | ⟨ho, hg⟩
  · exact h.room hk hv ho hg hu1 hu2 he1 he2
  · exact h.grow hk ho hg hu1 hu2 he1 he2
theorem KeepT.grew {T : TypeId} {B base n : Nat} {a W w' : World} {v v' x : Value} {xs : List Value} (h : KeepT T B a W) (hg : Grew W w' base T v v' n xs x) (ho : W.ownsRow base T 1 v n xs) (hB : B ≤ W.heap.size) (hbase : B ≤ base) : KeepT T B a w' := by
  rcases hg with ⟨g, c, hv, rfl, ho2, hg⟩ | ⟨ho2, hg⟩
  · exact h.grown (v := v) (by rw [hv]; exact hg) hB ho hbase
  · exact h.none hg hB
theorem Grew.row {W w' : World} {base n : Nat} {T : TypeId} {v v' x : Value} {xs : List Value} (hg : Grew W w' base T v v' n xs x) (hb : base ≤ W.heap.size) : w'.ownsRow base T 1 v' (n + 1) (xs ++ [x]) := by
  rcases hg with ⟨g, c, hv, rfl, ho2, hg⟩ | ⟨ho2, hg⟩
  · exact ho2
  · exact row_mono ho2 hb
theorem KeepT.new {T : TypeId} {B : Nat} {a W w' : World} {row : Option Nat} (h : KeepT T B a W) (hg : W.grownBy w' row) (hr : ∀ g, row = some g → a.heap.size ≤ g) (hB : B ≤ a.heap.size) : KeepT T B a w' :=
  ⟨h.b.grown hg (Nat.le_trans hB h.b.size) (fun g hg => Nat.le_trans hB (hr g hg)), fun q o hq ho => by
    have h1 := h.k q o hq ho
    have hlt := (Array.getElem?_eq_some_iff.1 hq).1
    rw [hg.block q (Array.getElem?_eq_some_iff.1 h1).1 (fun e => by have := hr q e.symm; omega)]
    exact h1⟩
/-- A row of another type grew. -/
theorem Ap2.more {w W w' : World} {base : Nat} {T T' : TypeId} {n n' : Nat} {vs us : Nat → Value} {ms es : Nat → Nat} {mk : Nat → Value} (h : Ap2 w W base T n vs us ms es mk) (hT : T ≠ T') {v v' x : Value} {xs : List Value} (ho : W.ownsRow w.heap.size T' 1 v n' xs) (hg : Grew W w' w.heap.size T' v v' n' xs x) : Ap2 w w' base T n vs us ms es mk := by
  rcases hg with ⟨g, c, hv, rfl, ho2, hg⟩ | ⟨ho2, hg⟩
  · have hgv : v.ownBlock = some g := by rw [hv]; rfl
    rw [← hgv] at hg
    exact ⟨fun q hq => World.ownsRow.kept (h.v q hq) hg (row_ne (h.v q hq) ho hT), fun q hq => World.ownsRow.kept (h.u q hq) hg (row_ne (h.u q hq) ho hT), h.uu, h.uv, h.k.new hg (fun g hg => (World.ownsRow.lt ho g hg).1) h.s, h.s⟩
  · have hn : ∀ {v : Value}, v.ownBlock = none ∨ v.ownBlock ≠ none := fun {v} => by cases v.ownBlock <;> simp
    exact ⟨fun q hq => World.ownsRow.kept (h.v q hq) hg hn, fun q hq => World.ownsRow.kept (h.u q hq) hg hn, h.uu, h.uv, h.k.new hg (fun g hg => by cases hg) h.s, h.s⟩
theorem getD_last (l : List Value) (x d : Value) (k : Nat) (h : l.length = k) : (l ++ [x]).getD k d = x := by subst h; simp
theorem getD_front (l : List Value) (x d : Value) (q : Nat) (h : q < l.length) : (l ++ [x]).getD q d = l.getD q d := by
  rw [List.getD_eq_getElem?_getD, List.getD_eq_getElem?_getD, List.getElem?_append_left h]
theorem row_frozen {w : World} {base : Nat} {T : TypeId} {size n g c : Nat} {xs : List Value} (h : w.ownsRow base T size (.slice (some ⟨g, 0, none⟩) n c) n xs) (j : Nat) : w.frozen? ⟨g, j, none⟩ = false := by
  rcases h.2 with ⟨hv, -⟩ | ⟨g1, c1, cur, hv, -, hg, -⟩
  · cases hv
  · injection hv with e1 e2 e3
    injection e1 with e1
    injection e1 with e1
    subst e1
    exact Blk.frozen (t := T) (cs := cur) hg j
end Go.Proofs.YtnkioabdpploeaaGreatDoor

/-
  WORDS on a row, and the row that was made from it by appends: whatever its elements' size.
-/
import Derived.Test.YtphoflcilpopgaaGreatDoorRows
import Derived.ArgAppend
import Derived.Deep.DeepAppendRoom
import Derived.Test.YtphoflcilpopgaaGreatDoorGBase
import Derived.Test.YtphoflcilpopgaaGreatDoorGSigs
import Derived.Test.YtphoflcilpopgaaGreatDoorGLns
set_option linter.unusedVariables false
set_option linter.unusedSimpArgs false
namespace Go.Proofs.YtphoflcilpopgaaGreatDoor
open Go.RowKit Go.Lib
theorem rowN_low {w w' : World} {base : Nat} {e : TypeId} {size n : Nat} {v : Value} {xs : List Value} (h : w.ownsRow base e size v n xs) {B : Nat} (hk : ∀ k, v.ownBlock = some k → k < B) (hb : Below B w w') : w'.ownsRow base e size v n xs := by
  refine ⟨h.1, ?_⟩
  rcases h.2 with h2 | ⟨g, cap, cur, rfl, hb1, hg, rest⟩
  · exact .inl h2
  · exact .inr ⟨g, cap, cur, rfl, hb1, (hb.block g (hk g rfl)).trans hg, rest⟩
theorem rowN_mono {w : World} {base base' : Nat} {e : TypeId} {size n : Nat} {v : Value} {xs : List Value} (h : w.ownsRow base e size v n xs) (hb : base' ≤ base) : w.ownsRow base' e size v n xs := by
  refine ⟨h.1, ?_⟩
  rcases h.2 with h2 | ⟨g, cap, cur, h1, h2, h3⟩
  · exact .inl h2
  · exact .inr ⟨g, cap, cur, h1, by omega, h3⟩
theorem rowN_ne {w : World} {base base' : Nat} {e e' : TypeId} {size size' n n' : Nat} {v v' : Value} {xs xs' : List Value} (h : w.ownsRow base e size v n xs) (h' : w.ownsRow base' e' size' v' n' xs') (hne : e ≠ e') : v.ownBlock = none ∨ v.ownBlock ≠ v'.ownBlock := by
  rcases h.2 with ⟨rfl, -⟩ | ⟨g, cap, cur, rfl, -, hg, -⟩
  · exact .inl rfl
  · rcases h'.2 with ⟨rfl, -⟩ | ⟨g', cap', cur', rfl, -, hg', -⟩
    · exact .inr (by simp [Value.ownBlock])
    · refine .inr fun e2 => ?_
      simp only [Value.ownBlock, Option.some.injEq] at e2
      subst e2
      rw [hg] at hg'
      injection hg' with hg'
      injection hg' with _ h2 _
      exact hne h2
theorem rowN_front {w : World} {base : Nat} {T : TypeId} {s g n m cap : Nat} {xs ys : List Value} (h : w.ownsRow base T s (.slice (some ⟨g, 0, none⟩) n cap) n (xs ++ ys)) (hx : xs.length = m * s) (hm : m ≤ n) : w.ownsRow base T s (.slice (some ⟨g, 0, none⟩) m cap) m xs := by
  refine ⟨hx, ?_⟩
  rcases h.2 with ⟨hv, -⟩ | ⟨g', cap', cur, hv, hb, hg, hnc, hcm, hcs, ht⟩
  · cases hv
  · injection hv with e1 e2 e3
    injection e1 with e1
    injection e1 with e1
    subst e1 e3
    refine .inr ⟨g, cap, cur, rfl, hb, hg, by omega, hcm, hcs, ?_⟩
    have h2 := congrArg (List.take (m * s)) ht
    rw [List.take_take, Nat.min_eq_left (Nat.mul_le_mul_right _ hm), ← hx, List.take_left] at h2
    rw [← hx]
    exact h2
theorem rowN_cap {w : World} {base base' : Nat} {T : TypeId} {s g n m c d : Nat} {xs ys : List Value} (hs : 0 < s) (h : w.ownsRow base T s (.slice (some ⟨g, 0, none⟩) n c) n xs) (h' : w.ownsRow base' T s (.slice (some ⟨g, 0, none⟩) m d) m ys) : c = d := by
  rcases h.2 with ⟨hv, -⟩ | ⟨g1, c1, cur, hv, -, hg, -, -, hcs, -⟩
  · cases hv
  · rcases h'.2 with ⟨hv', -⟩ | ⟨g2, c2, cur2, hv', -, hg', -, -, hcs', -⟩
    · cases hv'
    · injection hv with e1 e2 e3
      injection e1 with e1
      injection e1 with e1
      injection hv' with f1 f2 f3
      injection f1 with f1
      injection f1 with f1
      subst e1 e3 f1 f3
      rw [hg] at hg'
      injection hg' with hg'
      injection hg' with hg' _ _
      subst hg'
      rw [hcs] at hcs'
      exact Nat.eq_of_mul_eq_mul_right hs hcs'
theorem rowN_form {w : World} {base : Nat} {T : TypeId} {size n : Nat} {v : Value} {xs : List Value} (h : w.ownsRow base T size v n xs) : ∃ A c, v = .slice A n c ∧ (0 < n → ∃ g, A = some ⟨g, 0, none⟩) := by
  rcases h.2 with ⟨rfl, rfl⟩ | ⟨g, cap, cur, rfl, -, -, -⟩
  · exact ⟨none, 0, rfl, fun h => absurd h (by omega)⟩
  · exact ⟨_, cap, rfl, fun _ => ⟨g, rfl⟩⟩
theorem rowN_frozen {w : World} {base : Nat} {T : TypeId} {size n g c : Nat} {xs : List Value} (h : w.ownsRow base T size (.slice (some ⟨g, 0, none⟩) n c) n xs) (j : Nat) : w.frozen? ⟨g, j, none⟩ = false := by
  rcases h.2 with ⟨hv, -⟩ | ⟨g1, c1, cur, hv, -, hg, -⟩
  · cases hv
  · injection hv with e1 e2 e3
    injection e1 with e1
    injection e1 with e1
    subst e1
    exact Blk.frozen (t := T) (cs := cur) hg j
/-- A cell of an own row is written. -/
theorem rowN_set {w : World} {base : Nat} {T : TypeId} {s n g cap : Nat} {xs : List Value} (h : w.ownsRow base T s (.slice (some ⟨g, 0, none⟩) n cap) n xs) (j : Nat) (hj : j < n * s) (u : Value) :
    (w.setCell ⟨g, j, none⟩ u).ownsRow base T s (.slice (some ⟨g, 0, none⟩) n cap) n (xs.set j u) := by
  refine ⟨by rw [List.length_set]; exact h.1, ?_⟩
  rcases h.2 with ⟨hv, -⟩ | ⟨g', cap', cur, hv, hb, hg, hnc, hcm, hcs, ht⟩
  · cases hv
  · injection hv with e1 e2 e3
    injection e1 with e1
    injection e1 with e1
    subst e1 e3
    refine .inr ⟨g, cap, cur.set! j u, rfl, hb, ?_, hnc, hcm, by simpa using hcs, ?_⟩
    · simp only [World.setCell, Array.getElem?_modify]
      rw [hg]
      simp
    · rw [← ht]
      apply List.ext_getElem?
      intro i
      simp only [Array.set!_eq_setIfInBounds, Array.toList_setIfInBounds, List.getElem?_take, List.getElem?_set, List.length_take, Array.length_toList]
      repeat' split
      all_goals first | rfl | omega | simp_all
/-- Behind an append: in its place, or in a new block. -/
def GrewN (W w' : World) (base : Nat) (T : TypeId) (s : Nat) (v v' : Value) (n : Nat) (xs zs : List Value) : Prop :=
  (∃ g c, v = .slice (some ⟨g, 0, none⟩) n c ∧ v' = .slice (some ⟨g, 0, none⟩) (n + 1) c ∧ w'.ownsRow base T s (.slice (some ⟨g, 0, none⟩) (n + 1) c) (n + 1) (xs ++ zs) ∧ W.grownBy w' (some g)) ∨
  (w'.ownsRow W.heap.size T s v' (n + 1) (xs ++ zs) ∧ W.grownBy w' none)
set_option maxRecDepth 100000 in
theorem wpList_apN {ops : Array Oper} {rest : List Oper} {o : Oper} {a : Act} {Q : Exit → Act → World → Prop} (W : World) (hgd : o.guard = none) (s x : Operand) (t T : TypeId)
    (ho : o.op = .call { callee := .builtin .append, args := #[s, x], argTypes := #[t, t] }) (z : Value) (sz by_ : Nat) (hsz : 0 < sz) (ht : Tryz.prog.underlying t = some (.slice T)) (hinfo : (Tryz.prog.info? T).map (fun i => (i.zero, i.size, i.bytes)) = some (some z, sz, by_)) (hzs : z.cells.size = sz)
    {base n : Nat} {v : Value} {xs : List Value} (hown : W.ownsRow base T sz v n xs) (hs : a.eval s = v) {q : Nat} {zs : List Value} (hzl : zs.length = 1 * sz) (hu : ∀ j y, zs[j]? = some y → W.cell? ⟨q, j, none⟩ = some y) (hu1 : ∀ y ∈ zs, y.oneCell' = true) (hx : a.eval x = .slice (some ⟨q, 0, none⟩) 1 1)
    (h47 : (n + 1) * by_ ≤ 140737488355328) (hmx : n + 1 ≤ 4398046511104)
    (h : ∀ v' w', GrewN W w' base T sz v v' n xs zs → wpList Tryz.prog ops Q rest (a.put o.dst v') w') : wpList Tryz.prog ops Q (o :: rest) a W := by
  obtain ⟨i, hi, hz, hs1, hb1⟩ := info_parts hinfo
  have hnews : ∀ j y, zs[j]? = some y → W.cell? ((⟨q, 0, none⟩ : Addr).add j) = some y := fun j y hj => by
    have hadd : (⟨q, 0, none⟩ : Addr).add j = ⟨q, j, none⟩ := by unfold Addr.add; split <;> simp_all
    rw [hadd]; exact hu j y hj
  have hmx2 : n + 1 ≤ maxLen := by simp only [maxLen]; omega
  rcases id hown.2 with ⟨rfl, rfl⟩ | ⟨g, cap, cur, rfl, hb, hg, hnc, hcm, hcs, htk⟩
  · obtain rfl : xs = [] := List.eq_nil_of_length_eq_zero (by simpa using hown.1)
    refine wpList_append_grows W hgd s x t ho T i z sz by_ ht hi hz hs1 hb1 hzs hsz none 0 0 [] hs (fun _ => ⟨rfl, rfl⟩) (by simp) (fun b hb => by cases hb) ⟨q, 0, none⟩ 1 1 zs hx hzl hnews hu1 (by omega) hmx2 h47 (fun v' w' h1 h2 => h v' w' (.inr ⟨h1, h2⟩))
  · by_cases hr : n + 1 ≤ cap
    · refine wpList_append_own_spare W hgd s x t ho base T i sz ht hi hs1 g n cap xs hs hown ⟨q, 0, none⟩ 1 1 zs hx hzl hnews hu1 hr (fun w' h1 h2 => h _ w' (.inl ⟨g, cap, rfl, rfl, h1, h2⟩))
    · refine wpList_append_grows W hgd s x t ho T i z sz by_ ht hi hz hs1 hb1 hzs hsz (some ⟨g, 0, none⟩) n cap xs hs (fun e => by cases e) hown.1 (fun b hb j y hj => ?_) ⟨q, 0, none⟩ 1 1 zs hx hzl hnews hu1 (by omega) hmx2 h47 (fun v' w' h1 h2 => h v' w' (.inr ⟨h1, h2⟩))
      injection hb with hb
      subst hb
      exact World.ownsRow.cells hown rfl j y hj
/-- A row v of n elements, and u, made from it by e appends. -/
structure Two (W : World) (base : Nat) (T : TypeId) (s : Nat) (v u : Value) (n e : Nat) (xs ys : List Value) : Prop where
  v : W.ownsRow base T s v n xs
  u : W.ownsRow base T s u (n + e) (xs ++ ys)
theorem Two.low {W W' : World} {base : Nat} {T : TypeId} {s : Nat} {v u : Value} {n e : Nat} {xs ys : List Value} (h : Two W base T s v u n e xs ys) (hb : Below W.heap.size W W') : Two W' base T s v u n e xs ys :=
  ⟨rowN_low h.v (fun k hk => (World.ownsRow.lt h.v k hk).2) hb, rowN_low h.u (fun k hk => (World.ownsRow.lt h.u k hk).2) hb⟩
theorem Two.grew {W W' : World} {base : Nat} {T : TypeId} {s : Nat} {v u u' : Value} {n e : Nat} {xs ys zs : List Value} (h : Two W base T s v u n e xs ys) (hs : 0 < s) (hg : GrewN W W' base T s u u' (n + e) (xs ++ ys) zs) (hb : base ≤ W.heap.size) : Two W' base T s v u' n (e + 1) xs (ys ++ zs) := by
  rcases hg with ⟨g, c, hu, rfl, ho, hg⟩ | ⟨ho, hg⟩
  · rw [List.append_assoc] at ho
    refine ⟨?_, ho⟩
    by_cases e2 : v.ownBlock = some g
    · rcases id h.v.2 with ⟨e3, -⟩ | ⟨g3, c3, cur, e3, -⟩
      · rw [e3] at e2; simp [Value.ownBlock] at e2
      · rw [e3] at e2
        simp only [Value.ownBlock, Option.some.injEq] at e2
        subst e2
        have hc : c = c3 := rowN_cap hs (hu ▸ h.u) (e3 ▸ h.v)
        subst hc
        rw [e3]
        exact rowN_front ho h.v.1 (by omega)
    · exact World.ownsRow.kept h.v hg (.inr e2)
  · rw [List.append_assoc] at ho
    exact ⟨World.ownsRow.kept h.v hg (by cases v.ownBlock <;> simp), rowN_mono ho hb⟩
/-- What an append onto one row leaves of another one in another block. -/
theorem grewN_row {W w' : World} {base b n m s sz : Nat} {T e : TypeId} {v v' u : Value} {xs ys zs : List Value} (hg : GrewN W w' base T s v v' n xs zs) (hf : u.ownBlock = none ∨ u.ownBlock ≠ v.ownBlock) (h : W.ownsRow b e sz u m ys) : w'.ownsRow b e sz u m ys := by
  rcases hg with ⟨g, c, hv, rfl, ho2, hg⟩ | ⟨ho2, hg⟩
  · have hgv : v.ownBlock = some g := by rw [hv]; rfl
    rw [← hgv] at hg
    exact World.ownsRow.kept h hg hf
  · exact World.ownsRow.kept h hg (by cases u.ownBlock <;> simp)
theorem grewN_blk {W w' : World} {base n s g : Nat} {T t : TypeId} {v v' : Value} {xs zs : List Value} {cs : Array Value} (hg : GrewN W w' base T s v v' n xs zs) (ho : W.ownsRow base T s v n xs) (he : T ≠ t) (h : Blk W g t cs) : Blk w' g t cs := by
  rcases hg with ⟨q, c, hv, rfl, ho2, hg⟩ | ⟨ho2, hg⟩
  · have hgv : v.ownBlock = some q := by rw [hv]; rfl
    exact h.grown hg (fun e => own_blk_ne ho h he (by rw [hgv]; exact e.symm))
  · exact h.grown hg (by simp)
theorem grewN_below {a W w' : World} {base n s B : Nat} {T : TypeId} {v v' : Value} {xs zs : List Value} (hg : GrewN W w' base T s v v' n xs zs) (ho : W.ownsRow base T s v n xs) (hb : Below B a W) (hB : B ≤ base) (hW : B ≤ W.heap.size) : Below B a w' := by
  rcases hg with ⟨g, c, hv, rfl, ho2, hg⟩ | ⟨ho2, hg⟩
  · have hgv : v.ownBlock = some g := by rw [hv]; rfl
    exact hb.grown hg hW (fun k hk => by have := (World.ownsRow.lt ho k (by rw [hgv]; exact hk)).1; omega)
  · exact hb.grown hg hW (fun k hk => by cases hk)
/-- Three blocks, and what is new, alone were written. -/
structure Fr3 (W0 W : World) (a b c : Option Nat) : Prop where
  os : W.os = W0.os
  tape : W.tape = W0.tape
  output : W.output = W0.output
  size : W0.heap.size ≤ W.heap.size
  block : ∀ k, k < W0.heap.size → some k ≠ a → some k ≠ b → some k ≠ c → W.heap[k]? = W0.heap[k]?
theorem Fr3.refl (W0 : World) (a b c : Option Nat) : Fr3 W0 W0 a b c := ⟨rfl, rfl, rfl, Nat.le_refl _, fun _ _ _ _ _ => rfl⟩
theorem Fr3.grown {W0 W W' : World} {a b c row : Option Nat} (h : Fr3 W0 W a b c) (hg : W.grownBy W' row) (hr : row = a ∨ row = b ∨ row = c ∨ ∀ k, row = some k → W0.heap.size ≤ k) : Fr3 W0 W' a b c :=
  ⟨hg.os.trans h.os, hg.tape.trans h.tape, hg.output.trans h.output, Nat.le_trans h.size hg.size, fun k hk h1 h2 h3 => (hg.block k (Nat.lt_of_lt_of_le hk h.size) (fun e => by
    rcases hr with hr | hr | hr | hr
    · exact h1 (e.trans hr)
    · exact h2 (e.trans hr)
    · exact h3 (e.trans hr)
    · have := hr k e.symm; omega)).trans (h.block k hk h1 h2 h3)⟩
theorem gby_below {W W' : World} (hb : Below W.heap.size W W') : W.grownBy W' none := ⟨hb.os, hb.tape, hb.output, hb.size, fun k hk _ => hb.block k hk⟩
theorem Fr3.call {W0 W W' : World} {a b c : Option Nat} (h : Fr3 W0 W a b c) (hb : Below W.heap.size W W') : Fr3 W0 W' a b c := h.grown (gby_below hb) (.inr (.inr (.inr (fun k hk => by cases hk))))
theorem Fr3.blk {W0 W : World} {a b c : Option Nat} (h : Fr3 W0 W a b c) {g : Nat} {t : TypeId} {cs : Array Value} (hB : Blk W0 g t cs) (h1 : a ≠ some g) (h2 : b ≠ some g) (h3 : c ≠ some g) : Blk W g t cs := (h.block g hB.lt (Ne.symm h1) (Ne.symm h2) (Ne.symm h3)).trans hB
theorem Fr3.row {W0 W : World} {a b c : Option Nat} (h : Fr3 W0 W a b c) {base sz n : Nat} {e : TypeId} {v : Value} {xs : List Value} (ho : W0.ownsRow base e sz v n xs) (hne : ∀ k, v.ownBlock = some k → a ≠ some k ∧ b ≠ some k ∧ c ≠ some k) : W.ownsRow base e sz v n xs := by
  refine ⟨ho.1, ?_⟩
  rcases ho.2 with h2 | ⟨g, cap, cur, rfl, hb1, hg, rest⟩
  · exact .inl h2
  · have h3 := hne g rfl
    exact .inr ⟨g, cap, cur, rfl, hb1, (h.block g (Array.getElem?_eq_some_iff.1 hg).1 (Ne.symm h3.1) (Ne.symm h3.2.1) (Ne.symm h3.2.2)).trans hg, rest⟩
theorem Fr3.below {W0 W : World} {a b c : Option Nat} (h : Fr3 W0 W a b c) {B : Nat} (hB : B ≤ W0.heap.size) (ha : ∀ k, a = some k → B ≤ k) (hb : ∀ k, b = some k → B ≤ k) (hc : ∀ k, c = some k → B ≤ k) : Below B W0 W :=
  ⟨h.os, h.tape, h.output, h.size, fun k hk => h.block k (by omega) (fun e => by have := ha k e.symm; omega) (fun e => by have := hb k e.symm; omega) (fun e => by have := hc k e.symm; omega)⟩
theorem GrewN.by_ {W w' : World} {base n s : Nat} {T : TypeId} {v v' : Value} {xs zs : List Value} (hg : GrewN W w' base T s v v' n xs zs) : W.grownBy w' v.ownBlock := by
  rcases hg with ⟨g, c, rfl, rfl, ho2, hg⟩ | ⟨ho2, hg⟩
  · exact hg
  · exact ⟨hg.os, hg.tape, hg.output, hg.size, fun k hk _ => hg.block k hk (by simp)⟩
theorem gbyN_set (a : World) (g j : Nat) (u : Value) : a.grownBy (a.setCell ⟨g, j, none⟩ u) (some g) :=
  ⟨rfl, rfl, rfl, by simp [World.setCell], fun q hq hne => Below.heap_setCell _ _ _ _ (fun e => hne (by rw [e]))⟩
theorem gbyN_trans {a b c : World} {row : Option Nat} (h : a.grownBy b row) (k : b.grownBy c row) : a.grownBy c row :=
  ⟨k.os.trans h.os, k.tape.trans h.tape, k.output.trans h.output, Nat.le_trans h.size k.size, fun q hq hne => (k.block q (Nat.lt_of_lt_of_le hq h.size) hne).trans (h.block q hq hne)⟩
/-- The new row lies in the old one's block or in a new one. -/
theorem grewN_at {W w' : World} {base n s : Nat} {T : TypeId} {v v' : Value} {xs zs : List Value} (hg : GrewN W w' base T s v v' n xs zs) : v'.ownBlock = v.ownBlock ∨ ∀ k, v'.ownBlock = some k → W.heap.size ≤ k := by
  rcases hg with ⟨g, c, rfl, rfl, ho2, hg⟩ | ⟨ho2, hg⟩
  · exact .inl rfl
  · exact .inr (fun k hk => (World.ownsRow.lt ho2 k hk).1)
theorem Two.kept {W W' : World} {base : Nat} {T : TypeId} {s : Nat} {v u : Value} {n e : Nat} {xs ys : List Value} {row : Option Nat} (h : Two W base T s v u n e xs ys) (hg : W.grownBy W' row) (h1 : v.ownBlock = none ∨ v.ownBlock ≠ row) (h2 : u.ownBlock = none ∨ u.ownBlock ≠ row) : Two W' base T s v u n e xs ys :=
  ⟨World.ownsRow.kept h.v hg h1, World.ownsRow.kept h.u hg h2⟩
theorem OwnG.set3 {W : World} {b g n c : Nat} {l : List SigR} (h : OwnG W b (.slice (some ⟨g, 0, none⟩) n c) l) (hn : l.length = n) (j : Nat) (hj : j < n) (x : SigR) : OwnG (((W.setCell ⟨g, j * 3, none⟩ (.string x.nm)).setCell ⟨g, j * 3 + 1, none⟩ (.string x.id)).setCell ⟨g, j * 3 + 2, none⟩ (.string x.mc)) b (.slice (some ⟨g, 0, none⟩) n c) (l.set j x) := by
  subst hn
  have h1 := rowN_set (rowN_set (rowN_set h (j * 3) (by omega) (.string x.nm)) (j * 3 + 1) (by omega) (.string x.id)) (j * 3 + 2) (by omega) (.string x.mc)
  have e : (((sigCells l).set (j * 3) (.string x.nm)).set (j * 3 + 1) (.string x.id)).set (j * 3 + 2) (.string x.mc) = sigCells (l.set j x) := by
    apply List.ext_getElem?
    intro i
    have hlen := sigCells_length l
    have hlen2 := sigCells_length (l.set j x)
    rw [List.length_set] at hlen2
    by_cases hi : i < l.length * 3
    · obtain ⟨q, r, hr, rfl⟩ : ∃ q r, r < 3 ∧ i = q * 3 + r := ⟨i / 3, i % 3, Nat.mod_lt _ (by omega), by omega⟩
      have hq : q < l.length := by omega
      rw [sigCells_at (l.set j x) q r (by rw [List.length_set]; exact hq) hr]
      simp only [List.getElem?_set, List.length_set, hlen]
      by_cases hqj : j = q
      · subst hqj
        rw [List.getElem_set_self]
        have : r = 0 ∨ r = 1 ∨ r = 2 := by omega
        rcases this with rfl | rfl | rfl
        · rw [if_neg (by omega), if_neg (by omega), if_pos (by omega), if_pos (by omega)]; rfl
        · rw [if_neg (by omega), if_pos (by omega), if_pos (by omega)]; rfl
        · rw [if_pos (by omega), if_pos (by omega)]; rfl
      · rw [if_neg (by omega), if_neg (by omega), if_neg (by omega), sigCells_at l q r hq hr, List.getElem_set_ne hqj]
    · rw [List.getElem?_eq_none (by simp only [List.length_set]; omega), List.getElem?_eq_none (by omega)]
  unfold OwnG
  rw [List.length_set, ← e]
  exact h1
end Go.Proofs.YtphoflcilpopgaaGreatDoor

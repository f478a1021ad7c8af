/-
  WORDS on three rows and what is made from each by appends.
-/
import Derived.Test.YtphoflcilpopgaaGreatDoorRows
import Derived.Test.YtphoflcilpopgaaGreatDoorGBase
import Derived.Test.YtphoflcilpopgaaGreatDoorSFreshC
set_option linter.unusedVariables false
set_option linter.unusedSimpArgs false
namespace Go.Proofs.YtphoflcilpopgaaGreatDoor
open Go.RowKit Go.Lib
theorem wpList_apGF {ops : Array Oper} {rest : List Oper} {o : Oper} {a : Act} {Q : Exit → Act → World → Prop} (W : World) (hgd : o.guard = none) (s x : Operand)
    (ho : o.op = .call { callee := .builtin .append, args := #[s, x], argTypes := #[23, 23] })
    {base n : Nat} {v : Value} {xs : List Value} (hown : W.ownsRow base 43 3 v n xs) (hs : a.eval s = v) {q : Nat} {y : SigR} (hu : Blk W q 43 #[.string y.nm, .string y.id, .string y.mc]) (hx : a.eval x = .slice (some ⟨q, 0, none⟩) 1 1) (hmx : n + 1 ≤ 1099511627776)
    (h : ∀ v' w', GrewN W w' base 43 3 v v' n xs y.cs → wpList Tryz.prog ops Q rest (a.put o.dst v') w') : wpList Tryz.prog ops Q (o :: rest) a W :=
  wpList_apN W hgd s x 23 43 ho _ 3 48 (by decide) Tryz.underlying23 sigInfo rfl hown hs rfl (fun j z hz => by rw [hu.cell j, ← hz]; simp [SigR.cs]) (fun z hz => by simp [SigR.cs] at hz; rcases hz with rfl | rfl | rfl <;> rfl) hx (by omega) (by omega) h
theorem wpList_apTF {ops : Array Oper} {rest : List Oper} {o : Oper} {a : Act} {Q : Exit → Act → World → Prop} (W : World) (hgd : o.guard = none) (s x : Operand)
    (ho : o.op = .call { callee := .builtin .append, args := #[s, x], argTypes := #[28, 28] })
    {base n : Nat} {v : Value} {xs : List Value} (hown : W.ownsRow base 9 1 v n xs) (hs : a.eval s = v) {q : Nat} {y : ByteArray} (hu : Blk W q 9 #[.string y]) (hx : a.eval x = .slice (some ⟨q, 0, none⟩) 1 1) (hmx : n + 1 ≤ 1099511627776 + 1099511627776)
    (h : ∀ v' w', GrewN W w' base 9 1 v v' n xs [.string y] → wpList Tryz.prog ops Q rest (a.put o.dst v') w') : wpList Tryz.prog ops Q (o :: rest) a W :=
  wpList_apN W hgd s x 28 9 ho _ 1 16 (by decide) Tryz.underlying28 strInfo rfl hown hs rfl (fun j z hz => by rw [hu.cell j, ← hz]; simp) (fun z hz => by simp at hz; subst hz; rfl) hx (by omega) (by omega) h
/-- Three rows (v1, v2 of signatures, v3 of texts) and those made from them. -/
structure A3 (W0 W : World) (B1 B3 : Nat) (v1 v2 v3 u1 u2 u3 : Value) (n1 n2 n3 e1 e2 e3 : Nat) (x1 x2 x3 y1 y2 y3 : List Value) : Prop where
  t1 : Two W B1 43 3 v1 u1 n1 e1 x1 y1
  t2 : Two W B1 43 3 v2 u2 n2 e2 x2 y2
  t3 : Two W B3 9 1 v3 u3 n3 e3 x3 y3
  f12 : ∀ k, u1.ownBlock = some k → u2.ownBlock ≠ some k ∧ v2.ownBlock ≠ some k
  f21 : ∀ k, u2.ownBlock = some k → v1.ownBlock ≠ some k
  fr : Fr3 W0 W v1.ownBlock v2.ownBlock v3.ownBlock
  w1 : u1.ownBlock = v1.ownBlock ∨ ∀ k, u1.ownBlock = some k → W0.heap.size ≤ k
  w2 : u2.ownBlock = v2.ownBlock ∨ ∀ k, u2.ownBlock = some k → W0.heap.size ≤ k
  w3 : u3.ownBlock = v3.ownBlock ∨ ∀ k, u3.ownBlock = some k → W0.heap.size ≤ k
  z1 : B1 ≤ W0.heap.size
  z3 : B3 ≤ W0.heap.size
section
variable {W0 W W' : World} {B1 B3 : Nat} {v1 v2 v3 u1 u2 u3 u' : Value} {n1 n2 n3 e1 e2 e3 : Nat} {x1 x2 x3 y1 y2 y3 zs : List Value}
theorem A3.call (h : A3 W0 W B1 B3 v1 v2 v3 u1 u2 u3 n1 n2 n3 e1 e2 e3 x1 x2 x3 y1 y2 y3) (hb : Below W.heap.size W W') : A3 W0 W' B1 B3 v1 v2 v3 u1 u2 u3 n1 n2 n3 e1 e2 e3 x1 x2 x3 y1 y2 y3 :=
  ⟨h.t1.low hb, h.t2.low hb, h.t3.low hb, h.f12, h.f21, h.fr.call hb, h.w1, h.w2, h.w3, h.z1, h.z3⟩
theorem keep_ne {a b : Value} (h : ∀ k, b.ownBlock = some k → a.ownBlock ≠ some k) : a.ownBlock = none ∨ a.ownBlock ≠ b.ownBlock := by
  cases ha : a.ownBlock with
  | none => exact .inl rfl
  | some k => exact .inr (fun e => h k e.symm ha)
theorem at_new {W0 W W' : World} {base n s : Nat} {T : TypeId} {v u u' : Value} {xs zs : List Value} (hf : W0.heap.size ≤ W.heap.size) (hw : u.ownBlock = v.ownBlock ∨ ∀ k, u.ownBlock = some k → W0.heap.size ≤ k) (hg : GrewN W W' base T s u u' n xs zs) : u'.ownBlock = v.ownBlock ∨ ∀ k, u'.ownBlock = some k → W0.heap.size ≤ k := by
  rcases grewN_at hg with h | h
  · rw [h]; exact hw
  · exact .inr (fun k hk => Nat.le_trans hf (h k hk))
theorem A3.app1 (h : A3 W0 W B1 B3 v1 v2 v3 u1 u2 u3 n1 n2 n3 e1 e2 e3 x1 x2 x3 y1 y2 y3) (hg : GrewN W W' B1 43 3 u1 u' (n1 + e1) (x1 ++ y1) zs) : A3 W0 W' B1 B3 v1 v2 v3 u' u2 u3 n1 n2 n3 (e1 + 1) e2 e3 x1 x2 x3 (y1 ++ zs) y2 y3 := by
  have hs := Nat.le_trans h.z1 h.fr.size
  refine ⟨h.t1.grew (by decide) hg hs, h.t2.kept hg.by_ (keep_ne fun k hk => (h.f12 k hk).2) (keep_ne fun k hk => (h.f12 k hk).1), h.t3.kept hg.by_ (rowN_ne h.t3.v h.t1.u (by decide)) (rowN_ne h.t3.u h.t1.u (by decide)), ?_, h.f21, h.fr.grown hg.by_ ?_, at_new h.fr.size h.w1 hg, h.w2, h.w3, h.z1, h.z3⟩
  · intro k hk
    rcases grewN_at hg with e | e
    · exact h.f12 k (e ▸ hk)
    · have hk2 := e k hk
      refine ⟨fun e2 => ?_, fun e2 => ?_⟩
      · have := (World.ownsRow.lt h.t2.u k e2).2; omega
      · have := (World.ownsRow.lt h.t2.v k e2).2; omega
  · rcases h.w1 with e | e
    · exact .inl e
    · exact .inr (.inr (.inr e))
theorem A3.app2 (h : A3 W0 W B1 B3 v1 v2 v3 u1 u2 u3 n1 n2 n3 e1 e2 e3 x1 x2 x3 y1 y2 y3) (hg : GrewN W W' B1 43 3 u2 u' (n2 + e2) (x2 ++ y2) zs) : A3 W0 W' B1 B3 v1 v2 v3 u1 u' u3 n1 n2 n3 e1 (e2 + 1) e3 x1 x2 x3 y1 (y2 ++ zs) y3 := by
  have hs := Nat.le_trans h.z1 h.fr.size
  refine ⟨h.t1.kept hg.by_ (keep_ne fun k hk => h.f21 k hk) (keep_ne fun k hk e2 => (h.f12 k e2).1 hk), h.t2.grew (by decide) hg hs, h.t3.kept hg.by_ (rowN_ne h.t3.v h.t2.u (by decide)) (rowN_ne h.t3.u h.t2.u (by decide)), ?_, ?_, h.fr.grown hg.by_ ?_, h.w1, at_new h.fr.size h.w2 hg, h.w3, h.z1, h.z3⟩
  · intro k hk
    refine ⟨fun e2 => ?_, (h.f12 k hk).2⟩
    rcases grewN_at hg with e | e
    · exact (h.f12 k hk).1 (e ▸ e2)
    · have := e k e2
      have := (World.ownsRow.lt h.t1.u k hk).2; omega
  · intro k hk e2
    rcases grewN_at hg with e | e
    · exact h.f21 k (e ▸ hk) e2
    · have := e k hk
      have := (World.ownsRow.lt h.t1.v k e2).2; omega
  · rcases h.w2 with e | e
    · exact .inr (.inl e)
    · exact .inr (.inr (.inr e))
theorem A3.app3 (h : A3 W0 W B1 B3 v1 v2 v3 u1 u2 u3 n1 n2 n3 e1 e2 e3 x1 x2 x3 y1 y2 y3) (hg : GrewN W W' B3 9 1 u3 u' (n3 + e3) (x3 ++ y3) zs) : A3 W0 W' B1 B3 v1 v2 v3 u1 u2 u' n1 n2 n3 e1 e2 (e3 + 1) x1 x2 x3 y1 y2 (y3 ++ zs) := by
  have hs := Nat.le_trans h.z3 h.fr.size
  refine ⟨h.t1.kept hg.by_ (rowN_ne h.t1.v h.t3.u (by decide)) (rowN_ne h.t1.u h.t3.u (by decide)), h.t2.kept hg.by_ (rowN_ne h.t2.v h.t3.u (by decide)) (rowN_ne h.t2.u h.t3.u (by decide)), h.t3.grew (by decide) hg hs, h.f12, h.f21, h.fr.grown hg.by_ ?_, h.w1, h.w2, at_new h.fr.size h.w3 hg, h.z1, h.z3⟩
  rcases h.w3 with e | e
  · exact .inr (.inr (.inl e))
  · exact .inr (.inr (.inr e))
end
theorem OwnT.setF {W : World} {b g n c : Nat} {l : List ByteArray} (h : OwnT W b (.slice (some ⟨g, 0, none⟩) n c) l) (hn : l.length = n) (j : Nat) (hj : j < n) (z : ByteArray) : OwnT (W.setCell ⟨g, j, none⟩ (.string z)) b (.slice (some ⟨g, 0, none⟩) n c) (l.set j z) := by
  subst hn
  have h1 := rowN_set h j (by omega) (.string z)
  unfold OwnT
  rw [List.length_set, List.map_set]
  exact h1
theorem A3.start {W0 W : World} {B1 B3 : Nat} {A1 A2 A3' : Option Addr} {n1 n2 n3 c1 c2 c3 : Nat} {l1 l2 : List SigR} {l3 : List ByteArray} (hG : OwnG W B1 (.slice A1 n1 c1) l1) (hR : OwnG W B1 (.slice A2 n2 c2) l2) (hE : OwnT W B3 (.slice A3' n3 c3) l3) (h1 : l1.length = n1) (h2 : l2.length = n2) (h3 : l3.length = n3)
    (hf : ∀ k, (Value.slice A1 n1 c1).ownBlock = some k → (Value.slice A2 n2 c2).ownBlock ≠ some k) (hF : Fr3 W0 W (Value.slice A1 n1 c1).ownBlock (Value.slice A2 n2 c2).ownBlock (Value.slice A3' n3 c3).ownBlock) (z1 : B1 ≤ W0.heap.size) (z3 : B3 ≤ W0.heap.size) :
    A3 W0 W B1 B3 (.slice A1 n1 c1) (.slice A2 n2 c2) (.slice A3' n3 c3) (.slice A1 n1 c1) (.slice A2 n2 c2) (.slice A3' n3 c3) n1 n2 n3 0 0 0 (sigCells l1) (sigCells l2) (l3.map Value.string) [] [] [] := by
  subst h1 h2 h3
  exact ⟨⟨hG, by rw [List.append_nil]; exact hG⟩, ⟨hR, by rw [List.append_nil]; exact hR⟩, ⟨hE, by rw [List.append_nil]; exact hE⟩, fun k hk => ⟨hf k hk, hf k hk⟩, fun k hk e => hf k e hk, hF, .inl rfl, .inl rfl, .inl rfl, z1, z3⟩
theorem sig_first {W : World} {base m g c i : Nat} {l : List SigR} {ys : List Value} {mk : SigR} (h : W.ownsRow base 43 3 (.slice (some ⟨g, 0, none⟩) m c) m (sigCells l ++ ys)) (hl : l[i]? = some mk) (him : i < m) : W.cell? ⟨g, i * 3, none⟩ = some (.string mk.nm) := by
  obtain ⟨hi, e⟩ := List.getElem?_eq_some_iff.1 hl
  rw [World.ownsRow.cellAt h (i * 3) (by omega), List.getElem?_append_left (by rw [sigCells_length]; omega)]
  have h2 := sigCells_at l i 0 hi (by omega)
  rw [Nat.add_zero] at h2
  rw [h2, e]; rfl
theorem str_first {W : World} {base m g c i : Nat} {l : List ByteArray} {ys : List Value} {mk : ByteArray} (h : W.ownsRow base 9 1 (.slice (some ⟨g, 0, none⟩) m c) m (l.map Value.string ++ ys)) (hl : l[i]? = some mk) (him : i < m) : W.cell? ⟨g, i, none⟩ = some (.string mk) := by
  obtain ⟨hi, e⟩ := List.getElem?_eq_some_iff.1 hl
  rw [World.ownsRow.cellAt h i (by omega), List.getElem?_append_left (by rw [List.length_map]; omega), List.getElem?_map, hl]; rfl
theorem rowN_frozenF {w : World} {base : Nat} {T : TypeId} {size n m g c : Nat} {xs : List Value} (h : w.ownsRow base T size (.slice (some ⟨g, 0, none⟩) m c) n xs) (j : Nat) : w.frozen? ⟨g, j, none⟩ = false := by
  rcases h.2 with ⟨hv, -⟩ | ⟨g1, c1, cur, hv, -, hg, -⟩
  · cases hv
  · injection hv with e1 e2 e3
    injection e1 with e1
    injection e1 with e1
    subst e1
    exact Blk.frozen (t := T) (cs := cur) hg j
theorem mark_next {α : Type} {l : List α} {n j : Nat} {x : α} (hn : l.length = n) (hj : j < n) (h : ∀ q, q < j → l[q]? = some x) : (l.set j x).length = n ∧ ∀ q, q < j + 1 → (l.set j x)[q]? = some x := by
  refine ⟨by rw [List.length_set]; exact hn, fun q hq => ?_⟩
  rw [List.getElem?_set]
  by_cases e : j = q
  · rw [if_pos e, if_pos (by omega)]
  · rw [if_neg e]; exact h q (by omega)
theorem HdO.fr {W0 W : World} {a b c : Option Nat} {m B : Nat} {t : ByteArray} {g r : List SigR} {A1 A2 : Option Addr} {c1 c2 : Nat} (h : HdO W0 m B t g r A1 A2 c1 c2) (hF : Fr3 W0 W a b c) (hm : a ≠ some m ∧ b ≠ some m ∧ c ≠ some m) (h1 : ∀ k, (Value.slice A1 g.length c1).ownBlock = some k → a ≠ some k ∧ b ≠ some k ∧ c ≠ some k) (h2 : ∀ k, (Value.slice A2 r.length c2).ownBlock = some k → a ≠ some k ∧ b ≠ some k ∧ c ≠ some k) : HdO W m B t g r A1 A2 c1 c2 :=
  ⟨hF.blk h.1 hm.1 hm.2.1 hm.2.2, hF.row h.2.1 h1, hF.row h.2.2 h2⟩
theorem HdC.fr {W0 W : World} {a b c : Option Nat} {m B : Nat} {o r : ByteArray} {n : Int} {es : List ByteArray} {A : Option Addr} {c1 : Nat} (h : HdC W0 m B o r n es A c1) (hF : Fr3 W0 W a b c) (hm : a ≠ some m ∧ b ≠ some m ∧ c ≠ some m) (h1 : ∀ k, (Value.slice A es.length c1).ownBlock = some k → a ≠ some k ∧ b ≠ some k ∧ c ≠ some k) : HdC W m B o r n es A c1 :=
  ⟨hF.blk h.1 hm.1 hm.2.1 hm.2.2, hF.row h.2 h1⟩
end Go.Proofs.YtphoflcilpopgaaGreatDoor

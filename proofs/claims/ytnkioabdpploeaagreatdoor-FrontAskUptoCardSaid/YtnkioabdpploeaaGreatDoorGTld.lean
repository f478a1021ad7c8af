/-
  Several texts in one: PLAIN LAWS for Told: what is read has a line that is not too long; what is answered. | WORDS for the law's told: what a line is read as; the lists of lists that are gathered.
-/
import Derived.Test.YtnkioabdpploeaaGreatDoorRows
import Derived.Test.YtnkioabdpploeaaGreatDoorGBase
import Derived.Test.YtnkioabdpploeaaGreatDoorSDecP
import Derived.Test.YtnkioabdpploeaaGreatDoorSRTell
import Derived.Test.YtnkioabdpploeaaGreatDoorSWPlayTextExact
import Derived.Test.YtnkioabdpploeaaGreatDoorGApt
set_option linter.unusedVariables false
set_option linter.unusedSimpArgs false
namespace Go.Proofs.YtnkioabdpploeaaGreatDoor
open Go.RowKit Go.Lib
end Go.Proofs.YtnkioabdpploeaaGreatDoor

set_option linter.unusedVariables false
set_option linter.unusedSimpArgs false
namespace Go.Proofs.YtnkioabdpploeaaGreatDoor
open Go.RowKit Go.Lib
/-- What an append onto a row of one type leaves of another. -/
theorem grew_row {W w' : World} {base b n m sz : Nat} {T e : TypeId} {v v' u x : Value} {xs ys : List Value} (hg : Grew W w' base T v v' n xs x) (ho : W.ownsRow base T 1 v n xs) (he : e ≠ T) (h : W.ownsRow b e sz u m ys) : w'.ownsRow b e sz u m ys := by
  rcases hg with ⟨g, c, hv, rfl, ho2, hg⟩ | ⟨ho2, hg⟩
  · have hgv : v.ownBlock = some g := by rw [hv]; rfl
    rw [← hgv] at hg
    exact World.ownsRow.kept h hg (row_ne h ho he)
  · exact World.ownsRow.kept h hg (by cases u.ownBlock <;> simp)
theorem grew_blk {W w' : World} {base n g : Nat} {T t : TypeId} {v v' x : Value} {xs : List Value} {cs : Array Value} (hg : Grew W w' base T v v' n xs x) (ho : W.ownsRow base T 1 v n xs) (he : T ≠ t) (h : Blk W g t cs) : Blk w' g t cs := by
  rcases hg with ⟨q, c, hv, rfl, ho2, hg⟩ | ⟨ho2, hg⟩
  · have hgv : v.ownBlock = some q := by rw [hv]; rfl
    exact h.grown hg (fun e => own_blk_ne ho h he (by rw [hgv]; exact e.symm))
  · exact h.grown hg (by simp)
theorem grew_below {a W w' : World} {base n B : Nat} {T : TypeId} {v v' x : Value} {xs : List Value} (hg : Grew W w' base T v v' n xs x) (ho : W.ownsRow base T 1 v n xs) (hb : Below B a W) (hB : B ≤ base) (hW : B ≤ W.heap.size) : Below B a w' := by
  rcases hg with ⟨g, c, hv, rfl, ho2, hg⟩ | ⟨ho2, hg⟩
  · have hgv : v.ownBlock = some g := by rw [hv]; rfl
    exact hb.grown hg hW (fun k hk => by have := (World.ownsRow.lt ho k (by rw [hgv]; exact hk)).1; omega)
  · exact hb.grown hg hW (fun k hk => by cases hk)
/-- A list of rows, each in a block of its own. -/
structure Rs (B : Nat) (W : World) (T TL : TypeId) (i : Nat) (v : Value) (ls : List Value) (m : Nat → Nat) : Prop where
  o : W.ownsRow B TL 1 v i ls
  r : ∀ q, q < i → ∃ l, W.ownsRow B T 1 (ls.getD q (.slice none 0 0)) (m q) l
  d : ∀ q, q < i → ∀ q', q' < i → q ≠ q' → Far (ls.getD q (.slice none 0 0)) (ls.getD q' (.slice none 0 0))
theorem Rs.call {B : Nat} {W W' : World} {T TL : TypeId} {i : Nat} {v : Value} {ls : List Value} {m : Nat → Nat} (h : Rs B W T TL i v ls m) (hb : Below W.heap.size W W') : Rs B W' T TL i v ls m :=
  ⟨row_low h.o (fun k hk => (World.ownsRow.lt h.o k hk).2) hb, fun q hq => by obtain ⟨l, hl⟩ := h.r q hq; exact ⟨l, row_low hl (fun k hk => (World.ownsRow.lt hl k hk).2) hb⟩, h.d⟩
/-- A row that a later call made lies apart from all. -/
theorem Rs.far {B : Nat} {W W' : World} {T TL : TypeId} {i n sz : Nat} {v x : Value} {ls ys : List Value} {m : Nat → Nat} {e : TypeId} (h : Rs B W T TL i v ls m) (hx : W'.ownsRow W.heap.size e sz x n ys) : ∀ q, q < i → Far (ls.getD q (.slice none 0 0)) x := fun q hq g h1 h2 => by
  obtain ⟨l, hl⟩ := h.r q hq
  have := (World.ownsRow.lt hl g h1).2
  have := (World.ownsRow.lt hx g h2).1
  omega
theorem Rs.other {B : Nat} {W W' : World} {T TL T' : TypeId} {i : Nat} {v : Value} {ls : List Value} {m : Nat → Nat} {base n : Nat} {u u' x : Value} {xs : List Value} (h : Rs B W T TL i v ls m) (hg : Grew W W' base T' u u' n xs x) (ho : W.ownsRow base T' 1 u n xs) (h1 : T ≠ T') (h2 : TL ≠ T') : Rs B W' T TL i v ls m :=
  ⟨grew_row hg ho h2 h.o, fun q hq => by obtain ⟨l, hl⟩ := h.r q hq; exact ⟨l, grew_row hg ho h1 hl⟩, h.d⟩
theorem Rs.push {B : Nat} {W W' : World} {T TL : TypeId} {i : Nat} {v v' x : Value} {ls l : List Value} {m : Nat → Nat} (h : Rs B W T TL i v ls m) (hg : Grew W W' B TL v v' i ls x) (hT : T ≠ TL) (hB : B ≤ W.heap.size) (hx : W.ownsRow B T 1 x (m i) l) (hf : ∀ q, q < i → Far (ls.getD q (.slice none 0 0)) x) : Rs B W' T TL (i + 1) v' (ls ++ [x]) m := by
  have hl : ls.length = i := by have := h.o.1; omega
  refine ⟨hg.row hB, fun q hq => ?_, fun q hq q' hq' e => ?_⟩
  · by_cases e : q = i
    · subst e; rw [getD_last _ _ _ _ hl]; exact ⟨l, grew_row hg h.o hT hx⟩
    · rw [getD_front _ _ _ _ (by omega)]
      obtain ⟨l', hl'⟩ := h.r q (by omega)
      exact ⟨l', grew_row hg h.o hT hl'⟩
  · by_cases e1 : q = i
    · subst e1
      rw [getD_last _ _ _ _ hl, getD_front _ _ _ _ (by omega)]
      exact (hf q' (by omega)).symm
    · by_cases e2 : q' = i
      · subst e2
        rw [getD_last _ _ _ _ hl, getD_front _ _ _ _ (by omega)]
        exact hf q (by omega)
      · rw [getD_front _ _ _ _ (by omega), getD_front _ _ _ _ (by omega)]
        exact h.d q (by omega) q' (by omega) e
theorem Rs.nil (B : Nat) (W : World) (T TL : TypeId) (m : Nat → Nat) : Rs B W T TL 0 (.slice none 0 0) [] m := ⟨World.ownsRow_nil _ _ _ _, fun q hq => absurd hq (by omega), fun q hq => absurd hq (by omega)⟩
theorem Rs.ap1 {B : Nat} {W : World} {T TL : TypeId} {i : Nat} {v : Value} {ls : List Value} {m : Nat → Nat} (h : Rs B W T TL i v ls m) (hB : B ≤ W.heap.size) (mk : Nat → Value) : Ap1 W W B T i (fun q => ls.getD q (.slice none 0 0)) m mk (fun _ => 0) :=
  ⟨fun q hq => by obtain ⟨l, hl⟩ := h.r q hq; exact ⟨l, hl, fun i hi => absurd hi (by omega)⟩, h.d, KeepT.refl _ _ _, hB⟩
theorem Rs.keep {B : Nat} {W W' : World} {T TL T' : TypeId} {i B' : Nat} {v : Value} {ls : List Value} {m : Nat → Nat} (h : Rs B W T TL i v ls m) (hk : KeepT T' B' W W') (h1 : T ≠ T') (h2 : TL ≠ T') : Rs B W' T TL i v ls m :=
  ⟨hk.row h2 h.o, fun q hq => by obtain ⟨l, hl⟩ := h.r q hq; exact ⟨l, hk.row h1 hl⟩, h.d⟩
end Go.Proofs.YtnkioabdpploeaaGreatDoor

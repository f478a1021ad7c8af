/-
  WORDS for the walk of FrontTell: the copies of the argument's lists, the reply that holds them; an argument of type api.Reply opened.
-/
import Derived.Test.YtnkioabdpploeaaGreatDoorRows
import Derived.Lib.SmallJoins
import Derived.Test.YtnkioabdpploeaaGreatDoorGBase
import Derived.Test.YtnkioabdpploeaaGreatDoorSOpenSteps
import Derived.Test.YtnkioabdpploeaaGreatDoorSFTell
import Derived.Test.YtnkioabdpploeaaGreatDoorSMarks
import Derived.Test.YtnkioabdpploeaaGreatDoorSFToldA
set_option linter.unusedVariables false
set_option linter.unusedSimpArgs false
namespace Go.Proofs.YtnkioabdpploeaaGreatDoor
open Go.RowKit Go.Lib Go.Joins
theorem TX.alloc {w W : World} {cs : Array Value} (h : TX w W cs) (o : Obj) : TX w (W.alloc o) cs := ⟨h.b.alloc h.b.size o, h.x.alloc o⟩
/-- While the copies are made: which of the three (numbers, texts, the box) are there. -/
structure Xr (w W : World) (cs : Array Value) (N : List Int) (S : List ByteArray) (oi ot : Option (Nat × Nat)) (oa : Option Nat) : Prop where
  t : TX w W cs
  i : ∀ g c, oi = some (g, c) → MkI W g c N ∧ w.heap.size < g
  s : ∀ g c, ot = some (g, c) → MkT W g c S ∧ w.heap.size < g
  a : ∀ g, oa = some g → Blk W g 44 #[.int .i64 0, .slice none 0 0, .slice none 0 0] ∧ w.heap.size < g
theorem Xr.below {w W W' : World} {cs : Array Value} {N : List Int} {S : List ByteArray} {oi ot : Option (Nat × Nat)} {oa : Option Nat} (h : Xr w W cs N S oi ot oa) (hb : Below W.heap.size W W') : Xr w W' cs N S oi ot oa :=
  ⟨h.t.next hb, fun g c e => ⟨(h.i g c e).1.low hb, (h.i g c e).2⟩, fun g c e => ⟨(h.s g c e).1.low hb, (h.s g c e).2⟩, fun g e => ⟨(h.a g e).1.below hb (h.a g e).1.lt, (h.a g e).2⟩⟩
theorem Xr.drew {w W : World} {cs : Array Value} {N : List Int} {S : List ByteArray} {oi ot : Option (Nat × Nat)} {oa : Option Nat} (h : Xr w W cs N S oi ot oa) : Xr w W.drew cs N S oi ot oa := h.below ((Below.refl _ _).drew)
theorem Xr.alloc {w W : World} {cs : Array Value} {N : List Int} {S : List ByteArray} {oi ot : Option (Nat × Nat)} (h : Xr w W cs N S oi ot none) : Xr w (W.alloc (.cells #[.int .i64 0, .slice none 0 0, .slice none 0 0] 44)) cs N S oi ot (some W.heap.size) :=
  have h2 := h.below ((Below.refl W.heap.size W).alloc (Nat.le_refl _) (.cells #[.int .i64 0, .slice none 0 0, .slice none 0 0] 44))
  ⟨h2.t, h2.i, h2.s, fun g e => by injection e with e; subst e; exact ⟨Blk.new _ _ _, h.t.x.lt⟩⟩
/-- The reply that holds the copies. -/
structure Rg (w W : World) (cs : Array Value) (c : Int) (N : List Int) (S : List ByteArray) (g5 gN cN gS cS : Nat) : Prop where
  t : TX w W cs
  r : Blk W g5 44 #[.int .i64 c, .slice (some ⟨gN, 0, none⟩) N.length cN, .slice (some ⟨gS, 0, none⟩) S.length cS]
  i : MkI W gN cN N
  s : MkT W gS cS S
  ln : w.heap.size < gN
  ls : w.heap.size < gS
theorem Rg.below {w W W' : World} {cs : Array Value} {c : Int} {N : List Int} {S : List ByteArray} {g5 gN cN gS cS : Nat} (h : Rg w W cs c N S g5 gN cN gS cS) (hb : Below W.heap.size W W') : Rg w W' cs c N S g5 gN cN gS cS :=
  ⟨h.t.next hb, h.r.below hb h.r.lt, h.i.low hb, h.s.low hb, h.ln, h.ls⟩
/-- The copies were written. -/
theorem Rg.but {w W W' : World} {cs : Array Value} {c : Int} {N N' : List Int} {S S' : List ByteArray} {g5 gN cN gS cS : Nat} (h : Rg w W cs c N S g5 gN cN gS cS) (hb : But2 gN gS W W') (e1 : N'.length = N.length) (e2 : S'.length = S.length) (hI : MkI W' gN cN N') (hT : MkT W' gS cS S') : Rg w W' cs c N' S' g5 gN cN gS cS :=
  ⟨⟨h.t.b.trans (hb.below (Nat.le_of_lt h.ln) (Nat.le_of_lt h.ls)), hb.blk h.t.x (Nat.ne_of_lt h.ln) (Nat.ne_of_lt h.ls)⟩, by rw [e1, e2]; exact hb.blk h.r (h.i.blk_ne h.r (by decide)) (h.s.blk_ne h.r (by decide)), hI, hT, h.ln, h.ls⟩
set_option maxRecDepth 100000 in
theorem open_reply {H : Type} {enc : TypeId × Value → H} {w : World} {base : Nat} {sp : Nat → Bool} {held : Bool} {r : Reach} {b0 : Nat} {v : Value} {d : DataW H} {p : List MemPlace}
    (hv : Value.okWide Tryz.prog w r b0 44 v) (h : DataW.Trod enc Tryz.prog w base sp held 44 v d p) :
    ∃ (c : Int) (vn vs : Value) (N : List Int) (S : List ByteArray), v = .agg #[.int .i64 c, vn, vs] ∧ In64 c ∧ IntsAt w vn N ∧ StrsAt w vs S ∧ (∀ z ∈ N, In64 z) ∧ N.length + sizeS S ≤ Rows.uptoBulk d := by
  obtain ⟨v0, v1, v2, y0, y1, y2, k, rfl, rfl, rfl, h0, h1, h2⟩ := open_agg3 Tryz.underlying44 (by kernel_rfl) (by kernel_rfl) hv h
  obtain ⟨z, e0, rfl, hwf⟩ := DataW.trod_int Tryz.underlying29 h0
  obtain ⟨N, hN, hNb, hNi⟩ := open_ns h1
  obtain ⟨S, hS, hSb⟩ := open_ss h2
  simp at e0
  subst e0
  refine ⟨z, v1, v2, N, S, rfl, in64_wf hwf, hN, hS, hNi, ?_⟩
  simp [Rows.uptoBulk, Rows.uptoBulkAll]
  omega
/-- What stands while the answer's lists are written. -/
structure Fb (w W : World) (g8 g10 b8 : Nat) (cA : Int) (vnA vsA vnB vsB : Value) (NA : List Int) (SA : List ByteArray) : Prop where
  b : Below w.heap.size w W
  a : Blk W g8 44 #[.int .i64 cA, vnA, vsA]
  r : Blk W g10 44 #[.int .i64 cA, vnB, vsB]
  n : OwnI W b8 vnB NA
  s : OwnT W b8 vsB SA
  z : b8 ≤ W.heap.size
theorem Fb.call {w W W' : World} {g8 g10 b8 : Nat} {cA : Int} {vnA vsA vnB vsB : Value} {NA : List Int} {SA : List ByteArray} (h : Fb w W g8 g10 b8 cA vnA vsA vnB vsB NA SA) (hb : Below W.heap.size W W') : Fb w W' g8 g10 b8 cA vnA vsA vnB vsB NA SA :=
  ⟨h.b.trans (hb.mono h.b.size), h.a.below hb h.a.lt, h.r.below hb h.r.lt, row_low h.n (fun k hk => (World.ownsRow.lt h.n k hk).2) hb, row_low h.s (fun k hk => (World.ownsRow.lt h.s k hk).2) hb, Nat.le_trans h.z hb.size⟩
theorem Fb.grown {w W W' : World} {g8 g10 b8 : Nat} {cA : Int} {vnA vsA vnB vsB : Value} {NA : List Int} {SA : List ByteArray} (h : Fb w W g8 g10 b8 cA vnA vsA vnB vsB NA SA) {b0 sz n : Nat} {e : TypeId} {v : Value} {xs : List Value} (hg : W.grownBy W' v.ownBlock) (ho : W.ownsRow b0 e sz v n xs) (hb0 : w.heap.size ≤ b0) (he : e ≠ 44) (hlt : ∀ k, v.ownBlock = some k → k < b8) : Fb w W' g8 g10 b8 cA vnA vsA vnB vsB NA SA := by
  have hr : ∀ {b sz2 m : Nat} {e2 : TypeId} {u : Value} {ys : List Value}, W.ownsRow b e2 sz2 u m ys → b8 ≤ b → W'.ownsRow b e2 sz2 u m ys := fun {b sz2 m e2 u ys} hu hb => World.ownsRow.kept hu hg (by
    cases hv : u.ownBlock with
    | none => exact .inl rfl
    | some k => exact .inr (fun e3 => by have := hlt k e3.symm; have := (World.ownsRow.lt hu k hv).1; omega))
  exact ⟨h.b.grown hg h.b.size (fun k hk => Nat.le_trans hb0 (World.ownsRow.lt ho k hk).1), h.a.grown hg (fun e3 => own_blk_ne ho h.a he e3.symm), h.r.grown hg (fun e3 => own_blk_ne ho h.r he e3.symm), hr h.n (Nat.le_refl _), hr h.s (Nat.le_refl _), Nat.le_trans h.z hg.size⟩
theorem OwnI.set {W : World} {b g n c : Nat} {l : List Int} (h : OwnI W b (.slice (some ⟨g, 0, none⟩) n c) l) (hn : l.length = n) (j : Nat) (hj : j < n) (z : Int) : OwnI (W.setCell ⟨g, j, none⟩ (.int .i64 z)) b (.slice (some ⟨g, 0, none⟩) n c) (l.set j z) := by
  subst hn
  have h1 := row_set h j hj (.int .i64 z)
  unfold OwnI
  rw [List.length_set, List.map_set]
  exact h1
theorem OwnT.set {W : World} {b g n c : Nat} {l : List ByteArray} (h : OwnT W b (.slice (some ⟨g, 0, none⟩) n c) l) (hn : l.length = n) (j : Nat) (hj : j < n) (z : ByteArray) : OwnT (W.setCell ⟨g, j, none⟩ (.string z)) b (.slice (some ⟨g, 0, none⟩) n c) (l.set j z) := by
  subst hn
  have h1 := row_set h j hj (.string z)
  unfold OwnT
  rw [List.length_set, List.map_set]
  exact h1
theorem OwnI.at_ {W : World} {b g n c : Nat} {l : List Int} (h : OwnI W b (.slice (some ⟨g, 0, none⟩) n c) l) (hn : l.length = n) (j : Nat) (hj : j < n) : W.cell? ⟨g, j, none⟩ = some (.int .i64 (l[j]'(by omega))) ∧ W.frozen? ⟨g, j, none⟩ = false := by
  subst hn
  refine ⟨?_, row_frozen h j⟩
  rw [World.ownsRow.cellAt h j (by omega), List.getElem?_map, List.getElem?_eq_getElem hj]; rfl
theorem OwnT.at_ {W : World} {b g n c : Nat} {l : List ByteArray} (h : OwnT W b (.slice (some ⟨g, 0, none⟩) n c) l) (hn : l.length = n) (j : Nat) (hj : j < n) : W.cell? ⟨g, j, none⟩ = some (.string (l[j]'(by omega))) ∧ W.frozen? ⟨g, j, none⟩ = false := by
  subst hn
  refine ⟨?_, row_frozen h j⟩
  rw [World.ownsRow.cellAt h j (by omega), List.getElem?_map, List.getElem?_eq_getElem hj]; rfl
end Go.Proofs.YtnkioabdpploeaaGreatDoor

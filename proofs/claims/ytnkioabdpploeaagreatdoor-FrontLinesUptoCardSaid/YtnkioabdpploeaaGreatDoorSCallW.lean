/-
  WORDS for the walk of FrontAsk: the copies of the argument's lists, the call that holds them.
-/
import Derived.Test.YtnkioabdpploeaaGreatDoorRows
import Derived.Test.YtnkioabdpploeaaGreatDoorGBase
import Derived.Test.YtnkioabdpploeaaGreatDoorSTellW
import Derived.Test.YtnkioabdpploeaaGreatDoorSCalA
set_option linter.unusedVariables false
set_option linter.unusedSimpArgs false
namespace Go.Proofs.YtnkioabdpploeaaGreatDoor
open Go.RowKit Go.Lib Go.Joins
/-- While the copies are made: which of the three (numbers, texts, the box) are there. -/
structure Xrc (w W : World) (cs : Array Value) (N : List Int) (S : List ByteArray) (oi ot : Option (Nat × Nat)) (oa : Option Nat) : Prop where
  t : TXc w W cs
  i : ∀ g c, oi = some (g, c) → MkI W g c N ∧ w.heap.size < g
  s : ∀ g c, ot = some (g, c) → MkT W g c S ∧ w.heap.size < g
  a : ∀ g, oa = some g → Blk W g 25 #[.string ⟨#[]⟩, .slice none 0 0, .slice none 0 0] ∧ w.heap.size < g
theorem Xrc.below {w W W' : World} {cs : Array Value} {N : List Int} {S : List ByteArray} {oi ot : Option (Nat × Nat)} {oa : Option Nat} (h : Xrc w W cs N S oi ot oa) (hb : Below W.heap.size W W') : Xrc w W' cs N S oi ot oa :=
  ⟨h.t.next hb, fun g c e => ⟨(h.i g c e).1.low hb, (h.i g c e).2⟩, fun g c e => ⟨(h.s g c e).1.low hb, (h.s g c e).2⟩, fun g e => ⟨(h.a g e).1.below hb (h.a g e).1.lt, (h.a g e).2⟩⟩
theorem Xrc.drew {w W : World} {cs : Array Value} {N : List Int} {S : List ByteArray} {oi ot : Option (Nat × Nat)} {oa : Option Nat} (h : Xrc w W cs N S oi ot oa) : Xrc w W.drew cs N S oi ot oa := h.below ((Below.refl _ _).drew)
theorem Xrc.alloc {w W : World} {cs : Array Value} {N : List Int} {S : List ByteArray} {oi ot : Option (Nat × Nat)} (h : Xrc w W cs N S oi ot none) : Xrc w (W.alloc (.cells #[.string ⟨#[]⟩, .slice none 0 0, .slice none 0 0] 25)) cs N S oi ot (some W.heap.size) :=
  have h2 := h.below ((Below.refl W.heap.size W).alloc (Nat.le_refl _) (.cells #[.string ⟨#[]⟩, .slice none 0 0, .slice none 0 0] 25))
  ⟨h2.t, h2.i, h2.s, fun g e => by injection e with e; subst e; exact ⟨Blk.new _ _ _, h.t.x.lt⟩⟩
/-- The reply that holds the copies. -/
structure Rgc (w W : World) (cs : Array Value) (c : ByteArray) (N : List Int) (S : List ByteArray) (g5 gN cN gS cS : Nat) : Prop where
  t : TXc w W cs
  r : Blk W g5 25 #[.string c, .slice (some ⟨gN, 0, none⟩) N.length cN, .slice (some ⟨gS, 0, none⟩) S.length cS]
  i : MkI W gN cN N
  s : MkT W gS cS S
  ln : w.heap.size < gN
  ls : w.heap.size < gS
theorem Rgc.below {w W W' : World} {cs : Array Value} {c : ByteArray} {N : List Int} {S : List ByteArray} {g5 gN cN gS cS : Nat} (h : Rgc w W cs c N S g5 gN cN gS cS) (hb : Below W.heap.size W W') : Rgc w W' cs c N S g5 gN cN gS cS :=
  ⟨h.t.next hb, h.r.below hb h.r.lt, h.i.low hb, h.s.low hb, h.ln, h.ls⟩
/-- The copies were written. -/
theorem Rgc.but {w W W' : World} {cs : Array Value} {c : ByteArray} {N N' : List Int} {S S' : List ByteArray} {g5 gN cN gS cS : Nat} (h : Rgc w W cs c N S g5 gN cN gS cS) (hb : But2 gN gS W W') (e1 : N'.length = N.length) (e2 : S'.length = S.length) (hI : MkI W' gN cN N') (hT : MkT W' gS cS S') : Rgc w W' cs c N' S' g5 gN cN gS cS :=
  ⟨⟨h.t.b.trans (hb.below (Nat.le_of_lt h.ln) (Nat.le_of_lt h.ls)), hb.blk h.t.x (Nat.ne_of_lt h.ln) (Nat.ne_of_lt h.ls)⟩, by rw [e1, e2]; exact hb.blk h.r (h.i.blk_ne h.r (by decide)) (h.s.blk_ne h.r (by decide)), hI, hT, h.ln, h.ls⟩
/-- What stands while the answer's lists are written. -/
structure Fbc (w W : World) (g8 g10 b8 : Nat) (cA : ByteArray) (vnA vsA vnB vsB : Value) (NA : List Int) (SA : List ByteArray) : Prop where
  b : Below w.heap.size w W
  a : Blk W g8 25 #[.string cA, vnA, vsA]
  r : Blk W g10 25 #[.string cA, vnB, vsB]
  n : OwnI W b8 vnB NA
  s : OwnT W b8 vsB SA
  z : b8 ≤ W.heap.size
theorem Fbc.call {w W W' : World} {g8 g10 b8 : Nat} {cA : ByteArray} {vnA vsA vnB vsB : Value} {NA : List Int} {SA : List ByteArray} (h : Fbc w W g8 g10 b8 cA vnA vsA vnB vsB NA SA) (hb : Below W.heap.size W W') : Fbc w W' g8 g10 b8 cA vnA vsA vnB vsB NA SA :=
  ⟨h.b.trans (hb.mono h.b.size), h.a.below hb h.a.lt, h.r.below hb h.r.lt, row_low h.n (fun k hk => (World.ownsRow.lt h.n k hk).2) hb, row_low h.s (fun k hk => (World.ownsRow.lt h.s k hk).2) hb, Nat.le_trans h.z hb.size⟩
theorem Fbc.grown {w W W' : World} {g8 g10 b8 : Nat} {cA : ByteArray} {vnA vsA vnB vsB : Value} {NA : List Int} {SA : List ByteArray} (h : Fbc w W g8 g10 b8 cA vnA vsA vnB vsB NA SA) {b0 sz n : Nat} {e : TypeId} {v : Value} {xs : List Value} (hg : W.grownBy W' v.ownBlock) (ho : W.ownsRow b0 e sz v n xs) (hb0 : w.heap.size ≤ b0) (he : e ≠ 25) (hlt : ∀ k, v.ownBlock = some k → k < b8) : Fbc w W' g8 g10 b8 cA vnA vsA vnB vsB NA SA := by
  have hr : ∀ {b sz2 m : Nat} {e2 : TypeId} {u : Value} {ys : List Value}, W.ownsRow b e2 sz2 u m ys → b8 ≤ b → W'.ownsRow b e2 sz2 u m ys := fun {b sz2 m e2 u ys} hu hb => World.ownsRow.kept hu hg (by
    cases hv : u.ownBlock with
    | none => exact .inl rfl
    | some k => exact .inr (fun e3 => by have := hlt k e3.symm; have := (World.ownsRow.lt hu k hv).1; omega))
  exact ⟨h.b.grown hg h.b.size (fun k hk => Nat.le_trans hb0 (World.ownsRow.lt ho k hk).1), h.a.grown hg (fun e3 => own_blk_ne ho h.a he e3.symm), h.r.grown hg (fun e3 => own_blk_ne ho h.r he e3.symm), hr h.n (Nat.le_refl _), hr h.s (Nat.le_refl _), Nat.le_trans h.z hg.size⟩
/-- The call that a line is read as; an empty one where it is none. -/
def resC (s : ByteArray) : CaR := (callO s).getD ⟨⟨#[]⟩, [], []⟩
def resCE (s : ByteArray) : Int := if (callO s).isSome then 0 else 270
theorem col_form {w' : World} {base : Nat} {s : ByteArray} {e : Ending} (h : CalR w' base s e) : ∃ vn vs, e = .returned (.tuple #[.agg #[.string (resC s).nm, vn, vs], .int .i64 (resCE s)]) ∧ OwnI w' base vn (resC s).ns ∧ OwnT w' base vs (resC s).ss := by
  rcases h with ⟨r, vn, vs, hr, rfl, hn, hs⟩ | ⟨hr, rfl⟩
  · unfold resC resCE; rw [hr]
    exact ⟨vn, vs, rfl, hn, hs⟩
  · unfold resC resCE; rw [hr]
    exact ⟨_, _, rfl, World.ownsRow_nil _ _ _ _, World.ownsRow_nil _ _ _ _⟩
set_option maxRecDepth 100000 in
theorem open_call {H : Type} {enc : TypeId × Value → H} {w : World} {base : Nat} {sp : Nat → Bool} {held : Bool} {r : Reach} {b0 : Nat} {v : Value} {d : DataW H} {p : List MemPlace}
    (hv : Value.okWide Tryz.prog w r b0 25 v) (h : DataW.Trod enc Tryz.prog w base sp held 25 v d p) :
    ∃ (c : ByteArray) (vn vs : Value) (N : List Int) (S : List ByteArray), v = .agg #[.string c, vn, vs] ∧ IntsAt w vn N ∧ StrsAt w vs S ∧ (∀ z ∈ N, In64 z) ∧ c.size + N.length + sizeS S ≤ Rows.uptoBulk d := by
  obtain ⟨v0, v1, v2, y0, y1, y2, k, rfl, rfl, rfl, h0, h1, h2⟩ := open_agg3 Tryz.underlying25 (by kernel_rfl) (by kernel_rfl) hv h
  obtain ⟨s, e0, rfl, -⟩ := DataW.trod_string (ht := Tryz.underlying9) h0
  obtain ⟨N, hN, hNb, hNi⟩ := open_ns h1
  obtain ⟨S, hS, hSb⟩ := open_ss h2
  simp at e0
  subst e0
  refine ⟨s, v1, v2, N, S, rfl, hN, hS, hNi, ?_⟩
  have hsz : s.data.size = s.size := rfl
  simp [Rows.uptoBulk, Rows.uptoBulkAll, hsz]
  omega
end Go.Proofs.YtnkioabdpploeaaGreatDoor

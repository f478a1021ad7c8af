/-
  WORDS on rows of numbers and of steps that the call itself owns.
-/
import Derived.Test.YtaomecinemmdgaaRows
import Derived.Laws.OwnMore
import Derived.Test.YtaomecinemmdgaaGBase
import Derived.Test.YtaomecinemmdgaaSRScript
set_option linter.unusedVariables false
set_option linter.unusedSimpArgs false
namespace Go.Proofs.Ytaomecinemmdgaa
open Go.RowKit Go.Lib
theorem row_low {w w' : World} {base : Nat} {e : TypeId} {size n : Nat} {v : Value} {xs : List Value} (h : w.ownsRow base e size v n xs) {B : Nat} (hk : ∀ k, v.ownBlock = some k → k < B) (hb : Below B w w') : w'.ownsRow base e size v n xs := by
  refine ⟨h.1, ?_⟩
  rcases h.2 with h2 | ⟨g, cap, cur, rfl, hb1, hg, rest⟩
  · exact .inl h2
  · exact .inr ⟨g, cap, cur, rfl, hb1, (hb.block g (hk g rfl)).trans hg, rest⟩
theorem row_mono {w : World} {base base' : Nat} {e : TypeId} {size n : Nat} {v : Value} {xs : List Value} (h : w.ownsRow base e size v n xs) (hb : base' ≤ base) : w.ownsRow base' e size v n xs := by
  refine ⟨h.1, ?_⟩
  rcases h.2 with h2 | ⟨g, cap, cur, h1, h2, h3⟩
  · exact .inl h2
  · exact .inr ⟨g, cap, cur, h1, by omega, h3⟩
theorem row_ne {w : World} {base base' : Nat} {e e' : TypeId} {size size' n n' : Nat} {v v' : Value} {xs xs' : List Value} (h : w.ownsRow base e size v n xs) (h' : w.ownsRow base' e' size' v' n' xs') (hne : e ≠ e') : v.ownBlock = none ∨ v.ownBlock ≠ v'.ownBlock := by
  rcases h.2 with ⟨rfl, -⟩ | ⟨g, cap, cur, rfl, -, hg, -⟩
  · exact .inl rfl
  · rcases h'.2 with ⟨rfl, -⟩ | ⟨g', cap', cur', rfl, -, hg', -⟩
    · exact .inr (by simp [Value.ownBlock])
    · refine .inr fun e2 => ?_
      simp only [Value.ownBlock, Option.some.injEq] at e2
      subst e2
      rw [hg] at hg'
      injection hg' with hg'
      injection hg' with _ h2 _
      exact hne h2
theorem row_far {w : World} {base : Nat} {e : TypeId} {size n : Nat} {v : Value} {xs : List Value} (h : w.ownsRow base e size v n xs) {p : Addr} (hp : p.block < base) {u : Value} : (w.setCell p u).ownsRow base e size v n xs := by
  refine ⟨h.1, ?_⟩
  rcases h.2 with h2 | ⟨g, cap, cur, rfl, hb1, hg, rest⟩
  · exact .inl h2
  · exact .inr ⟨g, cap, cur, rfl, hb1, (Below.heap_setCell w p u g (by omega)).trans hg, rest⟩
theorem own_fresh {w : World} {base : Nat} {e : TypeId} {size n : Nat} {v : Value} {xs : List Value} (h : w.ownsRow base e size v n xs) {m c : Nat} : v.ownBlock = none ∨ v.ownBlock ≠ (Value.slice (some ⟨w.heap.size, 0, none⟩) m c).ownBlock := by
  cases hv : v.ownBlock with
  | none => exact .inl rfl
  | some k =>
    refine .inr fun e => ?_
    simp only [Value.ownBlock, Option.some.injEq] at e
    have := (World.ownsRow.lt h k hv).2
    omega
/-- A row of numbers that the call owns. -/
def OwnI (w : World) (base : Nat) (v : Value) (l : List Int) : Prop := w.ownsRow base 3 1 v l.length (l.map (Value.int .i64))
theorem OwnI.ints {w : World} {base : Nat} {v : Value} {l : List Int} (h : OwnI w base v l) : IntsAt w v l := by
  rcases id h.2 with ⟨rfl, hn⟩ | ⟨g, cap, cur, rfl, -, -, -⟩
  · obtain rfl := List.eq_nil_of_length_eq_zero hn
    exact ⟨none, 0, rfl, fun j hj => absurd hj (by simp)⟩
  · refine ⟨_, cap, rfl, fun j hj => ⟨_, rfl, ?_⟩⟩
    have hadd : (⟨g, 0, none⟩ : Addr).add j = ⟨g, j, none⟩ := by unfold Addr.add; split <;> simp_all
    rw [hadd, World.ownsRow.cellAt h j (by omega)]
    simp [hj]
theorem own_strs {w : World} {base : Nat} {v : Value} {l : List ByteArray} (h : OwnT w base v l) : StrsAt w v l := by
  rcases id h.2 with ⟨rfl, hn⟩ | ⟨g, cap, cur, rfl, -, -, -⟩
  · obtain rfl := List.eq_nil_of_length_eq_zero hn
    exact ⟨none, 0, rfl, fun j hj => absurd hj (by simp)⟩
  · refine ⟨_, cap, rfl, fun j hj => ⟨_, rfl, ?_⟩⟩
    have hadd : (⟨g, 0, none⟩ : Addr).add j = ⟨g, j, none⟩ := by unfold Addr.add; split <;> simp_all
    rw [hadd, World.ownsRow.cellAt h j (by omega)]
    simp [hj]
theorem intInfo : (Try.prog.info? 3).map (fun i => (i.zero, i.size, i.bytes)) = some (some (.int .i64 0), 1, 8) := by kernel_rfl
theorem IntsAt.reads {w : World} {A : Option Addr} {m c : Nat} {es : List Int} (h : IntsAt w (.slice A m c) es) : m = es.length ∧ Reads w w.heap.size 1 A m (es.map (Value.int .i64)) := by
  obtain ⟨A', c', hv, hc⟩ := h
  injection hv with e1 e2 e3
  subst e1 e2 e3
  refine ⟨rfl, by simp, fun h0 => ?_⟩
  obtain ⟨a, rfl, h1⟩ := hc 0 h0
  have hb := World.block_lt_of_cell? w _ h1
  rw [block_of_add] at hb
  refine ⟨a, rfl, hb, fun j u hu => ?_⟩
  rw [List.getElem?_map, Option.map_eq_some_iff] at hu
  obtain ⟨x, hx, rfl⟩ := hu
  obtain ⟨hj, rfl⟩ := List.getElem?_eq_some_iff.1 hx
  obtain ⟨a', ha, h2⟩ := hc j hj
  injection ha with ha
  subst ha
  exact h2
/-- append(v, x...) of numbers. -/
theorem wpList_appI {ops : Array Oper} {rest : List Oper} {o : Oper} {a : Act} {Q : Exit → Act → World → Prop} (w : World) (hgd : o.guard = none) (s x : Operand)
    (ho : o.op = .call { callee := .builtin .append, args := #[s, x], argTypes := #[27, 27] })
    {base : Nat} {v : Value} {es : List Int} (hown : OwnI w base v es) (hs : a.eval s = v) {A : Option Addr} {m c : Nat} {es2 : List Int} (hr : IntsAt w (.slice A m c) es2) (hx : a.eval x = .slice A m c)
    (h47 : es.length + es2.length ≤ 4398046511104) (hbase : base ≤ w.heap.size)
    (h : ∀ v' w', OwnI w' base v' (es ++ es2) → w.grownBy w' v.ownBlock → (v'.ownBlock = v.ownBlock ∨ v'.ownBlock = some w.heap.size) → wpList Try.prog ops Q rest (a.put o.dst v') w') : wpList Try.prog ops Q (o :: rest) a w := by
  obtain ⟨i, hi, hz, hs1, hb1⟩ := info_parts intInfo
  obtain ⟨hm, hrd⟩ := hr.reads
  refine wpList_append_any (w := w) hgd s x 27 ho base 3 i (.int .i64 0) 1 8 Try.underlying27 hi hz hs1 hb1 rfl (by decide) v es.length (es.map (Value.int .i64)) hs hown w.heap.size A m c (es2.map (Value.int .i64)) hx hrd ?_ ?_ ?_ hbase ?_
  · intro u hu
    obtain ⟨y, _, rfl⟩ := List.mem_map.1 hu
    rfl
  · simp only [maxLen]; omega
  · omega
  · intro v' w' h1 h2 h3
    refine h v' w' ?_ h2 h3
    unfold OwnI
    rw [List.map_append, List.length_append, ← hm]
    exact h1
/-- A step in cells: its numbers' row, its texts' row. -/
structure TE where
  kd : Int
  vn : Value
  vs : Value
  a : Int
  b : Int
  c : Int
  d : Int
  e : Int
  f : Int
  ns : List Int
  ss : List ByteArray
def TE.cs (x : TE) : List Value := [.int .i64 x.kd, x.vn, x.vs, .int .i64 x.a, .int .i64 x.b, .int .i64 x.c, .int .i64 x.d, .int .i64 x.e, .int .i64 x.f]
def TE.step (x : TE) : StepR := ⟨x.kd, [x.a, x.b, x.c, x.d, x.e, x.f], x.ns, x.ss⟩
def teCells (xs : List TE) : List Value := xs.flatMap TE.cs
theorem teCells_length (xs : List TE) : (teCells xs).length = xs.length * 9 := by
  induction xs with
  | nil => rfl
  | cons x r ih =>
    unfold teCells at ih ⊢
    rw [List.flatMap_cons, List.length_append, ih, List.length_cons]
    show 9 + _ = _
    omega
theorem teCells_at (xs : List TE) (j i : Nat) (hj : j < xs.length) (hi : i < 9) : (teCells xs)[j * 9 + i]? = (xs[j].cs)[i]? := by
  induction xs generalizing j with
  | nil => simp at hj
  | cons x r ih =>
    unfold teCells at ih ⊢
    rw [List.flatMap_cons]
    have hx : x.cs.length = 9 := rfl
    cases j with
    | zero =>
      rw [List.getElem?_append_left (by omega)]
      simp
    | succ j =>
      rw [List.getElem?_append_right (by omega), hx]
      have e : (j + 1) * 9 + i - 9 = j * 9 + i := by omega
      rw [e, ih j (by simpa using hj)]
      rfl
theorem teCells_app (a b : List TE) : teCells (a ++ b) = teCells a ++ teCells b := by unfold teCells; rw [List.flatMap_append]
def OwnS (w : World) (base : Nat) (v : Value) (xs : List TE) : Prop := w.ownsRow base 52 9 v xs.length (teCells xs)
theorem OwnS.cell {w : World} {base g n cap : Nat} {xs : List TE} (h : OwnS w base (.slice (some ⟨g, 0, none⟩) n cap) xs) (j i : Nat) (hj : j < xs.length) (hi : i < 9) : w.cell? ⟨g, j * 9 + i, none⟩ = (xs[j].cs)[i]? := by
  have hn : n = xs.length := by
    rcases h.2 with ⟨hv, -⟩ | ⟨g', cap', cur, hv, -⟩
    · cases hv
    · injection hv
  subst hn
  rw [World.ownsRow.cellAt h (j * 9 + i) (by omega), teCells_at xs j i hj hi]
theorem stepInfo : (Try.prog.info? 52).map (fun i => (i.zero, i.size, i.bytes)) = some (some (.agg #[.int .i64 0, .slice none 0 0, .slice none 0 0, .int .i64 0, .int .i64 0, .int .i64 0, .int .i64 0, .int .i64 0, .int .i64 0]), 9, 104) := by kernel_rfl
theorem te_one {xs : List TE} (h : ∀ x ∈ xs, x.vn.oneCell' = true ∧ x.vs.oneCell' = true) : ∀ u ∈ teCells xs, u.oneCell' = true := by
  intro u hu
  unfold teCells at hu
  obtain ⟨x, hx1, hx⟩ := List.mem_flatMap.1 hu
  obtain ⟨h1, h2⟩ := h x hx1
  simp only [TE.cs, List.mem_cons, List.not_mem_nil, or_false] at hx
  rcases hx with rfl | rfl | rfl | rfl | rfl | rfl | rfl | rfl | rfl
  · rfl
  · exact h1
  · exact h2
  all_goals rfl
theorem row_one {w : World} {base : Nat} {e : TypeId} {size n : Nat} {v : Value} {xs : List Value} (h : w.ownsRow base e size v n xs) : v.oneCell' = true := by
  rcases h.2 with ⟨rfl, -⟩ | ⟨g, cap, cur, rfl, -⟩ <;> rfl
/-- append(v, x), x one step in a new block of its own. -/
theorem wpList_appS1 {ops : Array Oper} {rest : List Oper} {o : Oper} {a : Act} {Q : Exit → Act → World → Prop} (w : World) (hgd : o.guard = none) (s x : Operand)
    (ho : o.op = .call { callee := .builtin .append, args := #[s, x], argTypes := #[22, 22] })
    {base : Nat} {v : Value} {es : List TE} (hown : OwnS w base v es) (hs : a.eval s = v) {y : TE} (hx : a.eval x = .slice (some ⟨w.heap.size, 0, none⟩) 1 1) (hy : y.vn.oneCell' = true ∧ y.vs.oneCell' = true)
    (h47 : es.length + 1 ≤ 1099511627776) (hbase : base ≤ w.heap.size)
    (h : ∀ v' w', OwnS w' base v' (es ++ [y]) → (w.alloc (.cells y.cs.toArray 52)).grownBy w' v.ownBlock → (v'.ownBlock = v.ownBlock ∨ v'.ownBlock = some (w.heap.size + 1)) → wpList Try.prog ops Q rest (a.put o.dst v') w') :
    wpList Try.prog ops Q (o :: rest) a (w.alloc (.cells y.cs.toArray 52)) := by
  obtain ⟨i, hi, hz, hs1, hb1⟩ := info_parts stepInfo
  refine wpList_append_any (w := w.alloc (.cells y.cs.toArray 52)) hgd s x 22 ho base 52 i _ 9 104 Try.underlying22 hi hz hs1 hb1 rfl (by decide) v es.length (teCells es) hs (World.ownsRow.alloc hown _) (w.alloc (.cells y.cs.toArray 52)).heap.size (some ⟨w.heap.size, 0, none⟩) 1 1 (teCells [y]) hx ⟨rfl, fun _ => ⟨_, rfl, by simp, fun j u hu => ?_⟩⟩ (te_one (fun z hz => by rw [List.mem_singleton] at hz; subst hz; exact hy)) ?_ ?_ (by simp; omega) ?_
  · have hadd : (⟨w.heap.size, 0, none⟩ : Addr).add j = ⟨w.heap.size, j, none⟩ := by unfold Addr.add; split <;> simp_all
    rw [hadd, (Blk.new w 52 y.cs.toArray).cell j]
    unfold teCells at hu
    rw [List.flatMap_cons, List.flatMap_nil, List.append_nil] at hu
    rw [List.getElem?_toArray]
    exact hu
  · simp only [maxLen]; omega
  · omega
  · intro v' w' h1 h2 h3
    refine h v' w' ?_ h2 (by simpa using h3)
    unfold OwnS
    rw [teCells_app, List.length_append]
    exact h1
/-- What stands while a step is copied: the list so far and its rows lie below the step's box. -/
structure TwX (w W : World) (gx : Nat) (cs : Array Value) (v : Value) (es : List TE) : Prop where
  row : OwnS W w.heap.size v es
  lo : ∀ k, v.ownBlock = some k → k < gx
  nest : ∀ x ∈ es, (OwnI W w.heap.size x.vn x.ns ∧ ∀ k, x.vn.ownBlock = some k → k < gx) ∧ OwnT W w.heap.size x.vs x.ss ∧ ∀ k, x.vs.ownBlock = some k → k < gx
  b : Below w.heap.size w W
  s : Blk W gx 52 cs
  n : w.heap.size ≤ gx
theorem TwX.above {w W W' : World} {gx : Nat} {cs : Array Value} {v : Value} {es : List TE} (h : TwX w W gx cs v es) (hb : Below (gx + 1) W W') : TwX w W' gx cs v es :=
  have hn := h.n
  ⟨row_low h.row h.lo (hb.mono (Nat.le_succ _)), h.lo, fun x hx => ⟨⟨row_low (h.nest x hx).1.1 (h.nest x hx).1.2 (hb.mono (Nat.le_succ _)), (h.nest x hx).1.2⟩, row_low (h.nest x hx).2.1 (h.nest x hx).2.2 (hb.mono (Nat.le_succ _)), (h.nest x hx).2.2⟩, h.b.trans (hb.mono (by omega)), h.s.below hb (Nat.lt_succ_self _), hn⟩
theorem TwX.set {w W : World} {gx : Nat} {cs : Array Value} {v : Value} {es : List TE} (h : TwX w W gx cs v es) (i : Nat) (u : Value) : TwX w (W.setCell ⟨gx, i, none⟩ u) gx (cs.setIfInBounds i u) v es :=
  have hb : Below gx W (W.setCell ⟨gx, i, none⟩ u) := (Below.refl gx W).setCell (p := ⟨gx, i, none⟩) (Nat.le_refl _) u
  ⟨row_low h.row h.lo hb, h.lo, fun x hx => ⟨⟨row_low (h.nest x hx).1.1 (h.nest x hx).1.2 hb, (h.nest x hx).1.2⟩, row_low (h.nest x hx).2.1 (h.nest x hx).2.2 hb, (h.nest x hx).2.2⟩, h.b.trans (hb.mono h.n), h.s.set_ i u, h.n⟩
/-- What stands between two steps. -/
structure TwS (w W : World) (v : Value) (es : List TE) : Prop where
  row : OwnS W w.heap.size v es
  nest : ∀ x ∈ es, OwnI W w.heap.size x.vn x.ns ∧ OwnT W w.heap.size x.vs x.ss
  b : Below w.heap.size w W
theorem TwS.box {w W : World} {v : Value} {es : List TE} (h : TwS w W v es) (cs : Array Value) : TwX w (W.alloc (.cells cs 52)) W.heap.size cs v es :=
  ⟨World.ownsRow.alloc h.row _, fun k hk => (World.ownsRow.lt h.row k hk).2, fun x hx => ⟨⟨World.ownsRow.alloc (h.nest x hx).1 _, fun k hk => (World.ownsRow.lt (h.nest x hx).1 k hk).2⟩, World.ownsRow.alloc (h.nest x hx).2 _, fun k hk => (World.ownsRow.lt (h.nest x hx).2 k hk).2⟩, h.b.alloc h.b.size _, Blk.new _ _ _, h.b.size⟩
theorem TwX.app {w W W' : World} {gx : Nat} {cs : Array Value} {v v' : Value} {es : List TE} {y : TE} {ob : Obj} (h : TwX w W gx cs v es) (hI : OwnI W w.heap.size y.vn y.ns) (hT : OwnT W w.heap.size y.vs y.ss) (hO : OwnS W' w.heap.size v' (es ++ [y])) (hg : (W.alloc ob).grownBy W' v.ownBlock) : TwS w W' v' (es ++ [y]) :=
  have hr := World.ownsRow.alloc h.row ob
  ⟨hO, fun x hx => by
    rcases List.mem_append.1 hx with hx | hx
    · have hn := h.nest x hx
      exact ⟨World.ownsRow.kept (World.ownsRow.alloc hn.1.1 ob) hg (row_ne (World.ownsRow.alloc hn.1.1 ob) hr (by decide)), World.ownsRow.kept (World.ownsRow.alloc hn.2.1 ob) hg (row_ne (World.ownsRow.alloc hn.2.1 ob) hr (by decide))⟩
    · rw [List.mem_singleton] at hx
      subst hx
      exact ⟨World.ownsRow.kept (World.ownsRow.alloc hI ob) hg (row_ne (World.ownsRow.alloc hI ob) hr (by decide)), World.ownsRow.kept (World.ownsRow.alloc hT ob) hg (row_ne (World.ownsRow.alloc hT ob) hr (by decide))⟩,
   (h.b.alloc h.b.size ob).grown hg (by have := h.b.size; simp; omega) (fun k hk => (World.ownsRow.lt h.row k hk).1)⟩
theorem TwS.steps {w W : World} {v : Value} {es : List TE} (h : TwS w W v es) : StepsAt W v (es.map TE.step) := by
  rcases id h.row.2 with ⟨rfl, hn⟩ | ⟨g, cap, cur, rfl, -⟩
  · obtain rfl := List.eq_nil_of_length_eq_zero hn
    exact ⟨none, 0, rfl, fun j hj => absurd hj (by simp)⟩
  · refine ⟨some ⟨g, 0, none⟩, cap, by simp, fun j hj => ⟨_, rfl, ?_⟩⟩
    rw [List.length_map] at hj
    have hadd : (⟨g, 0, none⟩ : Addr).add (j * 9) = ⟨g, j * 9, none⟩ := by unfold Addr.add; split <;> simp_all
    rw [hadd, List.getElem_map]
    have hc := fun i hi => OwnS.cell h.row j i hj hi
    have hn := h.nest _ (List.getElem_mem hj)
    generalize es[j] = x at *
    refine ⟨x.vn, x.vs, x.a, x.b, x.c, x.d, x.e, x.f, rfl, hc 0 (by omega), hc 1 (by omega), hc 2 (by omega), hc 3 (by omega), hc 4 (by omega), hc 5 (by omega), hc 6 (by omega), hc 7 (by omega), hc 8 (by omega), hn.1.ints, own_strs hn.2⟩
end Go.Proofs.Ytaomecinemmdgaa

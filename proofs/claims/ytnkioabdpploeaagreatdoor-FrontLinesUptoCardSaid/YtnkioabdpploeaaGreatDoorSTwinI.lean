/-
  WORDS on rows of numbers and of steps that the call itself owns.
-/
import Derived.Test.YtnkioabdpploeaaGreatDoorRows
import Derived.Laws.OwnMore
import Derived.Test.YtnkioabdpploeaaGreatDoorGBase
import Derived.Test.YtnkioabdpploeaaGreatDoorSRScript
set_option linter.unusedVariables false
set_option linter.unusedSimpArgs false
namespace Go.Proofs.YtnkioabdpploeaaGreatDoor
open Go.RowKit Go.Lib
theorem row_low {w w' : World} {base : Nat} {e : TypeId} {size n : Nat} {v : Value} {xs : List Value} (h : w.ownsRow base e size v n xs) {B : Nat} (hk : ∀ k, v.ownBlock = some k → k < B) (hb : Below B w w') : w'.ownsRow base e size v n xs := by
  refine ⟨h.1, ?_⟩
  rcases h.2 with h2 | ⟨g, cap, cur, rfl, hb1, hg, rest⟩
  · exact .inl h2
  · exact .inr ⟨g, cap, cur, rfl, hb1, (hb.block g (hk g rfl)).trans hg, rest⟩
theorem row_mono {w : World} {base base' : Nat} {e : TypeId} {size n : Nat} {v : Value} {xs : List Value} (h : w.ownsRow base e size v n xs) (hb : base' ≤ base) : w.ownsRow base' e size v n xs := by
  refine ⟨h.1, ?_⟩
  rcases h.2 with h2 | ⟨g, cap, cur, h1, h2, h3⟩
  · exact .inl h2
  · exact .inr ⟨g, cap, cur, h1, by omega, h3⟩
theorem row_ne {w : World} {base base' : Nat} {e e' : TypeId} {size size' n n' : Nat} {v v' : Value} {xs xs' : List Value} (h : w.ownsRow base e size v n xs) (h' : w.ownsRow base' e' size' v' n' xs') (hne : e ≠ e') : v.ownBlock = none ∨ v.ownBlock ≠ v'.ownBlock := by
  rcases h.2 with ⟨rfl, -⟩ | ⟨g, cap, cur, rfl, -, hg, -⟩
  · exact .inl rfl
  · rcases h'.2 with ⟨rfl, -⟩ | ⟨g', cap', cur', rfl, -, hg', -⟩
    · exact .inr (by simp [Value.ownBlock])
    · refine .inr fun e2 => ?_
      simp only [Value.ownBlock, Option.some.injEq] at e2
      subst e2
      rw [hg] at hg'
      injection hg' with hg'
      injection hg' with _ h2 _
      exact hne h2
theorem row_far {w : World} {base : Nat} {e : TypeId} {size n : Nat} {v : Value} {xs : List Value} (h : w.ownsRow base e size v n xs) {p : Addr} (hp : p.block < base) {u : Value} : (w.setCell p u).ownsRow base e size v n xs := by
  refine ⟨h.1, ?_⟩
  rcases h.2 with h2 | ⟨g, cap, cur, rfl, hb1, hg, rest⟩
  · exact .inl h2
  · exact .inr ⟨g, cap, cur, rfl, hb1, (Below.heap_setCell w p u g (by omega)).trans hg, rest⟩
/-- A row of numbers that the call owns. -/
def OwnI (w : World) (base : Nat) (v : Value) (l : List Int) : Prop := w.ownsRow base 3 1 v l.length (l.map (Value.int .i64))
theorem OwnI.ints {w : World} {base : Nat} {v : Value} {l : List Int} (h : OwnI w base v l) : IntsAt w v l := by
  rcases id h.2 with ⟨rfl, hn⟩ | ⟨g, cap, cur, rfl, -, -, -⟩
  · obtain rfl := List.eq_nil_of_length_eq_zero hn
    exact ⟨none, 0, rfl, fun j hj => absurd hj (by simp)⟩
  · refine ⟨_, cap, rfl, fun j hj => ⟨_, rfl, ?_⟩⟩
    have hadd : (⟨g, 0, none⟩ : Addr).add j = ⟨g, j, none⟩ := by unfold Addr.add; split <;> simp_all
    rw [hadd, World.ownsRow.cellAt h j (by omega)]
    simp [hj]
theorem intInfo : (Tryz.prog.info? 3).map (fun i => (i.zero, i.size, i.bytes)) = some (some (.int .i64 0), 1, 8) := by kernel_rfl
theorem IntsAt.reads {w : World} {A : Option Addr} {m c : Nat} {es : List Int} (h : IntsAt w (.slice A m c) es) : m = es.length ∧ Reads w w.heap.size 1 A m (es.map (Value.int .i64)) := by
  obtain ⟨A', c', hv, hc⟩ := h
  injection hv with e1 e2 e3
  subst e1 e2 e3
  refine ⟨rfl, by simp, fun h0 => ?_⟩
  obtain ⟨a, rfl, h1⟩ := hc 0 h0
  have hb := World.block_lt_of_cell? w _ h1
  rw [block_of_add] at hb
  refine ⟨a, rfl, hb, fun j u hu => ?_⟩
  rw [List.getElem?_map, Option.map_eq_some_iff] at hu
  obtain ⟨x, hx, rfl⟩ := hu
  obtain ⟨hj, rfl⟩ := List.getElem?_eq_some_iff.1 hx
  obtain ⟨a', ha, h2⟩ := hc j hj
  injection ha with ha
  subst ha
  exact h2
/-- append(v, x...) of numbers. -/
theorem wpList_appI {ops : Array Oper} {rest : List Oper} {o : Oper} {a : Act} {Q : Exit → Act → World → Prop} (w : World) (hgd : o.guard = none) (s x : Operand)
    (ho : o.op = .call { callee := .builtin .append, args := #[s, x], argTypes := #[22, 22] })
    {base : Nat} {v : Value} {es : List Int} (hown : OwnI w base v es) (hs : a.eval s = v) {A : Option Addr} {m c : Nat} {es2 : List Int} (hr : IntsAt w (.slice A m c) es2) (hx : a.eval x = .slice A m c)
    (h47 : es.length + es2.length ≤ 4398046511104) (hbase : base ≤ w.heap.size)
    (h : ∀ v' w', OwnI w' base v' (es ++ es2) → w.grownBy w' v.ownBlock → (v'.ownBlock = v.ownBlock ∨ v'.ownBlock = some w.heap.size) → wpList Tryz.prog ops Q rest (a.put o.dst v') w') : wpList Tryz.prog ops Q (o :: rest) a w := by
  obtain ⟨i, hi, hz, hs1, hb1⟩ := info_parts intInfo
  obtain ⟨hm, hrd⟩ := hr.reads
  refine wpList_append_any (w := w) hgd s x 22 ho base 3 i (.int .i64 0) 1 8 Tryz.underlying22 hi hz hs1 hb1 rfl (by decide) v es.length (es.map (Value.int .i64)) hs hown w.heap.size A m c (es2.map (Value.int .i64)) hx hrd ?_ ?_ ?_ hbase ?_
  · intro u hu
    obtain ⟨y, _, rfl⟩ := List.mem_map.1 hu
    rfl
  · simp only [maxLen]; omega
  · omega
  · intro v' w' h1 h2 h3
    refine h v' w' ?_ h2 h3
    unfold OwnI
    rw [List.map_append, List.length_append, ← hm]
    exact h1
/-- A step in cells: its numbers' row, its texts' row. -/
structure TE where
  kd : Int
  vn : Value
  vs : Value
  a : Int
  b : Int
  c : Int
  d : Int
  e : Int
  f : Int
  ns : List Int
  ss : List ByteArray
def TE.cs (x : TE) : List Value := [.int .i64 x.kd, x.vn, x.vs, .int .i64 x.a, .int .i64 x.b, .int .i64 x.c, .int .i64 x.d, .int .i64 x.e, .int .i64 x.f]
def TE.step (x : TE) : StepR := ⟨x.kd, [x.a, x.b, x.c, x.d, x.e, x.f], x.ns, x.ss⟩
end Go.Proofs.YtnkioabdpploeaaGreatDoor

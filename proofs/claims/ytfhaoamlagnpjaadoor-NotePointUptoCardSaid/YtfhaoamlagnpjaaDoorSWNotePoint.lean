/-
  THE WALK of the law NotePoint.
-/
import Derived.Test.YtfhaoamlagnpjaaDoorRows
import Derived.Deep.RegionLaw
import Derived.Deep.DeepCutAuto
import Derived.Test.YtfhaoamlagnpjaaDoorGBase
import Derived.Test.YtfhaoamlagnpjaaDoorSWNoteBack
import Derived.Test.YtfhaoamlagnpjaaDoorSWNoteParse
import Derived.Test.YtfhaoamlagnpjaaDoorSPointP
import Derived.Test.YtfhaoamlagnpjaaDoorSRParse
set_option linter.unusedVariables false
set_option linter.unusedSimpArgs false
namespace Go.Proofs.YtfhaoamlagnpjaaDoor
open Go.RowKit Go.Lib
theorem and_big (a : Int) : ∃ z : Int, bits .and .i64 a 4611686018427387903 = z ∧ 0 ≤ z ∧ z ≤ 4611686018427387904 := by
  have e : bits .and .i64 a 4611686018427387903 = (((BitVec.ofInt 64 a &&& BitVec.ofInt 64 ((4611686018427387903 : Nat) : Int)).toNat : Nat) : Int) ∧ (BitVec.ofInt 64 a &&& BitVec.ofInt 64 ((4611686018427387903 : Nat) : Int)).toNat ≤ 4611686018427387903 := by
    have h : (BitVec.ofInt 64 a &&& BitVec.ofInt 64 ((4611686018427387903 : Nat) : Int)).toNat ≤ 4611686018427387903 := by
      rw [BitVec.toNat_and, ofInt_i64 4611686018427387903 (by omega)]; exact Nat.and_le_right
    refine ⟨?_, h⟩
    show IntKind.i64.wrap ((BitVec.ofInt 64 a &&& BitVec.ofInt 64 ((4611686018427387903 : Nat) : Int)).toNat : Int) = _
    rw [IntKind.wrap_i64]
    omega
  exact ⟨_, e.1, by omega, by omega⟩
/-- What stands behind the making of d. -/
def PtCut (w : World) (g0 : Nat) (o : ByteArray) (n : Int) (rt : ByteArray) (vx : Value) (nm : ByteArray) (z : Int) (s5 : Value) (wx : World) : Prop :=
  ∃ g5 : Nat, s5 = .pointer (some ⟨g5, 0, none⟩) ∧ w.heap.size < g5 ∧ Blk wx g5 34 #[.string nm, .int .i64 z, .string rt, .slice none 0 0] ∧ Blk wx g0 34 #[.string o, .int .i64 n, .string rt, vx] ∧ Below w.heap.size w wx
theorem pt_A {w w0 w2 : World} {g0 : Nat} {o rt nm : ByteArray} {n z : Int} {vx : Value} (hg0 : w.heap.size = g0) (hN : Blk w0 g0 34 #[.string o, .int .i64 n, .string rt, vx]) (hb : Below g0 w w0) (hb2' : Below w0.drew.heap.size w0.drew w2) :
    PtCut w g0 o n rt vx nm z (.pointer (some ⟨w2.heap.size, 0, none⟩)) (w2.alloc (.cells #[.string nm, .int .i64 z, .string rt, .slice none 0 0] 34)) := by
  subst hg0
  have hb2 : Below w0.heap.size w0 w2 := ((Below.refl w0.heap.size w0).drew).trans hb2'
  have h1 := hb.size; have h2 := hb2.size; have h3 := hN.lt
  exact ⟨_, rfl, by omega, Blk.new _ _ _, (hN.below hb2 hN.lt).alloc _, (hb.trans (hb2.mono h1)).alloc (Nat.le_trans h1 h2) _⟩
theorem pt_B {w w0 w2 : World} {g0 : Nat} {o rt nm : ByteArray} {n z : Int} {vx : Value} {ob : Obj} (hg0 : w.heap.size = g0) (hN : Blk w0 g0 34 #[.string o, .int .i64 n, .string rt, vx]) (hb : Below g0 w w0) (hb2' : Below (w0.alloc ob).drew.heap.size (w0.alloc ob).drew w2) (hD : Blk w2 w0.heap.size 34 #[.string ⟨#[]⟩, .int .i64 0, .string ⟨#[]⟩, .slice none 0 0]) :
    PtCut w g0 o n rt vx nm z (.pointer (some ⟨w0.heap.size, 0, none⟩)) ((((w2.setCell ⟨w0.heap.size, 0, none⟩ (.string nm)).setCell ⟨w0.heap.size, 1, none⟩ (.int .i64 z)).setCell ⟨w0.heap.size, 2, none⟩ (.string rt)).setCell ⟨w0.heap.size, 3, none⟩ (.slice none 0 0)) := by
  subst hg0
  have hb2 : Below (w0.alloc ob).heap.size (w0.alloc ob) w2 := ((Below.refl (w0.alloc ob).heap.size (w0.alloc ob)).drew).trans hb2'
  have h1 := hb.size; have h3 := hN.lt
  have h4 : (w0.alloc ob).heap.size = w0.heap.size + 1 := by simp
  have hN2 := (hN.alloc ob).below hb2 (by omega)
  have hne : w.heap.size ≠ w0.heap.size := by omega
  refine ⟨_, rfl, by omega, ?_, ?_, ?_⟩
  · exact blk4_store hD _ _ _ _
  · exact (((hN2.far (p := ⟨w0.heap.size, 0, none⟩) hne _).far (p := ⟨w0.heap.size, 1, none⟩) hne _).far (p := ⟨w0.heap.size, 2, none⟩) hne _).far (p := ⟨w0.heap.size, 3, none⟩) hne _
  · exact below4_store ((hb.alloc h1 ob).trans (hb2.mono (by omega))) h1 _ _ _ _
/-- What stands while d's lines are gathered. -/
structure PtX (w W : World) (g0 g5 : Nat) (cp : Array Value) (nm : ByteArray) (z : Int) (R : ByteArray) (v : Value) (l : List ByteArray) : Prop where
  d : Blk W g5 34 #[.string nm, .int .i64 z, .string R, v]
  own : OwnT W (g5 + 1) v l
  c : Blk W g0 34 cp
  below : Below w.heap.size w W
theorem PtX.next {w W W' : World} {g0 g5 : Nat} {cp : Array Value} {nm : ByteArray} {z : Int} {R : ByteArray} {v : Value} {l : List ByteArray} (h : PtX w W g0 g5 cp nm z R v l) (hb : Below W.heap.size W W') : PtX w W' g0 g5 cp nm z R v l :=
  ⟨h.d.below hb h.d.lt, h.own.below hb, h.c.below hb h.c.lt, h.below.trans (hb.mono h.below.size)⟩
theorem PtX.drew {w W : World} {g0 g5 : Nat} {cp : Array Value} {nm : ByteArray} {z : Int} {R : ByteArray} {v : Value} {l : List ByteArray} (h : PtX w W g0 g5 cp nm z R v l) : PtX w W.drew g0 g5 cp nm z R v l := h.next (Below.refl _ _).drew
theorem PtX.alloc {w W : World} {g0 g5 : Nat} {cp : Array Value} {nm : ByteArray} {z : Int} {R : ByteArray} {v : Value} {l : List ByteArray} (h : PtX w W g0 g5 cp nm z R v l) (o : Obj) : PtX w (W.alloc o) g0 g5 cp nm z R v l := h.next ((Below.refl _ _).alloc (Nat.le_refl _) o)
theorem PtX.app {w W W' : World} {g0 g5 : Nat} {cp : Array Value} {nm : ByteArray} {z : Int} {R : ByteArray} {v : Value} {l : List ByteArray} (h : PtX w W g0 g5 cp nm z R v l) (h05 : g0 < g5) (hw : w.heap.size < g5) (hg : W.grownBy W' v.ownBlock) :
    Blk W' g5 34 #[.string nm, .int .i64 z, .string R, v] ∧ Blk W' g0 34 cp ∧ Below w.heap.size w W' := by
  have h5 : some g5 ≠ v.ownBlock := fun e => by have := (World.ownsRow.lt h.own _ e.symm).1; omega
  have h0 : some g0 ≠ v.ownBlock := fun e => by have := (World.ownsRow.lt h.own _ e.symm).1; omega
  exact ⟨h.d.grown hg h5, h.c.grown hg h0, h.below.grown hg h.below.size (fun k hk => by have := (World.ownsRow.lt h.own _ hk).1; omega)⟩
theorem PtX.put {w W' : World} {g0 g5 : Nat} {cp : Array Value} {nm : ByteArray} {z : Int} {R : ByteArray} {v v' : Value} {l : List ByteArray} (h : Blk W' g5 34 #[.string nm, .int .i64 z, .string R, v] ∧ Blk W' g0 34 cp ∧ Below w.heap.size w W') (h05 : g0 < g5) (hw : w.heap.size < g5) (hO : OwnT W' (g5 + 1) v' l) : PtX w (W'.setCell ⟨g5, 3, none⟩ v') g0 g5 cp nm z R v' l :=
  ⟨h.1.set_ 3 v', hO.far (p := ⟨g5, 3, none⟩) (Nat.lt_succ_self _) v', h.2.1.far (p := ⟨g5, 3, none⟩) (by show g0 ≠ g5; omega) v', h.2.2.setCell (p := ⟨g5, 3, none⟩) (Nat.le_of_lt hw) v'⟩
/-- That, and the tables. -/
structure PtS (w W : World) (g0 g5 : Nat) (cp : Array Value) (nm : ByteArray) (z : Int) (R : ByteArray) (v : Value) (l : List ByteArray) : Prop where
  x : PtX w W g0 g5 cp nm z R v l
  p : PTab W
  u : Lib.Utf8Tabs 3 4 W
  m : MaxOk W
theorem PtS.next {w W W' : World} {g0 g5 : Nat} {cp : Array Value} {nm : ByteArray} {z : Int} {R : ByteArray} {v : Value} {l : List ByteArray} (h : PtS w W g0 g5 cp nm z R v l) (hb : Below W.heap.size W W') : PtS w W' g0 g5 cp nm z R v l :=
  ⟨h.x.next hb, h.p.next hb, Tabs.below h.u hb (Tabs.lt3 h.u) (Tabs.lt4 h.u), h.m.below hb h.m.lt⟩
/-- And the checkpoint read back, in a block. -/
structure PtF (w W : World) (g0 g5 gf bf : Nat) (cp : Array Value) (nm : ByteArray) (z : Int) (R : ByteArray) (v vf : Value) (l : List ByteArray) : Prop where
  s : PtS w W g0 g5 cp nm z R v l
  f : Blk W gf 34 #[.string nm, .int .i64 z, .string R, vf]
  own : OwnT W bf vf l
theorem PtF.next {w W W' : World} {g0 g5 gf bf : Nat} {cp : Array Value} {nm : ByteArray} {z : Int} {R : ByteArray} {v vf : Value} {l : List ByteArray} (h : PtF w W g0 g5 gf bf cp nm z R v vf l) (hb : Below W.heap.size W W') : PtF w W' g0 g5 gf bf cp nm z R v vf l :=
  ⟨h.s.next hb, h.f.below hb h.f.lt, h.own.below hb⟩
theorem step_appT1 {ops : Array Oper} {o : Oper} {a : Act} {K : Act → World → Prop} {Q : Exit → Act → World → Prop} {E : Prop} (w : World) (hgd : o.guard = none) (s x : Operand)
    (ho : o.op = .call { callee := .builtin .append, args := #[s, x], argTypes := #[32, 32] })
    {base : Nat} {v : Value} {es : List ByteArray} (hown : OwnT w base v es) (hs : a.eval s = v) {gx : Nat} {st : ByteArray} (hc : w.cell? ⟨gx, 0, none⟩ = some (.string st)) (hx : a.eval x = .slice (some ⟨gx, 0, none⟩) 1 1)
    (h47 : es.length + 1 ≤ 4398046511104) (hbase : base ≤ w.heap.size)
    (h : ∀ v' w', OwnT w' base v' (es ++ [st]) → w.grownBy w' v.ownBlock → K (a.put o.dst v') w') :
    if Region.wanted o (yielded ops a.tmps) = true then Oper.wp Tryd.prog o a w K Q else E :=
  step_appT w hgd s x ho hown hs (es2 := [st]) ⟨some ⟨gx, 0, none⟩, 1, rfl, fun j hj => ⟨_, rfl, by
    have : j = 0 := by simp at hj; omega
    subst this
    exact hc⟩⟩ hx (by simpa using h47) hbase (fun v' w' h1 h2 _ => h v' w' h1 h2)
set_option maxRecDepth 100000 in
set_option maxHeartbeats 4000000 in
theorem lawPoint_any (o rt : ByteArray) (n : Int) (x : Value) (es : List ByteArray) (b : ByteArray) (w : World) (ho : o.size ≤ 1048576) (hr : rt.size ≤ 1048576) (he : (linesL es).length ≤ 1048576) (hbz : b.size ≤ 1048576) (hS : StrsAt w x es) (hP : PTab w) (hU : Lib.Utf8Tabs 3 4 w) (hM : MaxOk w) :
    Calls Tryd.prog 12 #[.agg #[.string o, .int .i64 n, .string rt, x], .string b] w fun e W' => e = .returned (.bool true) ∧ Below w.heap.size w W' := by
  obtain ⟨A, c, rfl, hel⟩ := hS
  have hel' : ∀ j (h : j < es.length), ∃ a, A = some a ∧ (a.add j).block < w.heap.size ∧ w.cell? (a.add j) = some (.string es[j]) := fun j h => by
    obtain ⟨a, e, hc⟩ := hel j h
    exact ⟨a, e, World.block_lt_of_cell? w _ hc, hc⟩
  have hno := fun W => named_any o W (by omega)
  have HNO := hide hno; have H0 := hide (And.intro hel' (And.intro hP (And.intro hU hM))); clear hno hel hel' hP hU hM
  go_enter Tryd.func12, Tryd.ntmps12
  go_wp2_with fail
  have hN0 : Blk (w.alloc (.cells #[.string o, .int .i64 n, .string rt, .slice A es.length c] 34)) w.heap.size 34 #[.string o, .int .i64 n, .string rt, .slice A es.length c] := Blk.new _ _ _
  have hb0 : Below w.heap.size w (w.alloc (.cells #[.string o, .int .i64 n, .string rt, .slice A es.length c] 34)) := (Below.refl _ _).alloc (Nat.le_refl _) _
  have hg1 : w.heap.size + 1 = (w.alloc (.cells #[.string o, .int .i64 n, .string rt, .slice A es.length c] 34)).heap.size := by simp
  generalize hw0 : w.alloc (.cells #[.string o, .int .i64 n, .string rt, .slice A es.length c] 34) = w0 at *
  generalize hg0 : w.heap.size = g0 at *
  clear hw0
  have k0 := hN0.cell 0; have k1 := hN0.cell 1; have k2 := hN0.cell 2
  simp only [List.getElem?_toArray, List.getElem?_cons_zero, List.getElem?_cons_succ] at k0 k1 k2
  have H1 := hide (And.intro hN0 (And.intro hb0 hg1)); clear hN0 hb0 hg1
  obtain ⟨z, hz, hz0, hz1⟩ := and_big n
  have nn0 := World.new_ne w0 _ k0; have nn1 := World.new_ne w0 _ k1; have nn2 := World.new_ne w0 _ k2
  have nl0 := (unhide H1).1.lt
  go_cut [5] (fun s5 wx => PtCut w g0 o n rt (.slice A es.length c) (namedB o) z s5 wx)
  case first =>
    have nn3 : ¬ g0 = w0.heap.size := fun e => nn0 e.symm
    go_region_held3 (fun W => W.cell? ⟨g0, 0, none⟩ = some (.string o) ∧ W.cell? ⟨g0, 1, none⟩ = some (.int .i64 n) ∧ W.cell? ⟨g0, 2, none⟩ = some (.string rt)) (first | (refine ⟨?_, ?_, ?_⟩ <;> assumption) | go_keep) (first
      | (go_at_call 37; (with_reducible refine ((unhide HNO) w0.drew).mono ?_); rintro e w2 ⟨rfl, hb2⟩; have k02 : w2.cell? ⟨g0, 0, none⟩ = some (.string o) := (hb2.cell nl0).trans k0; have k12 : w2.cell? ⟨g0, 1, none⟩ = some (.int .i64 n) := (hb2.cell nl0).trans k1; have k22 : w2.cell? ⟨g0, 2, none⟩ = some (.string rt) := (hb2.cell nl0).trans k2; have hn3 : g0 < w2.heap.size := World.block_lt_of_cell? w2 _ k02; have hn4 : ¬ g0 = w2.heap.size := (fun e => by omega); have hn5 : ¬ w2.heap.size = g0 := (fun e => by omega))
      | (go_at_call 37; refine ((unhide HNO) _).mono ?_; rintro e w2 ⟨rfl, hb2⟩; have k02 : w2.cell? ⟨g0, 0, none⟩ = some (.string o) := (hb2.cell (by simp; omega)).trans ((World.cell?_alloc_lt w0 _ ⟨g0, 0, none⟩ nl0).trans k0); have k12 : w2.cell? ⟨g0, 1, none⟩ = some (.int .i64 n) := (hb2.cell (by simp; omega)).trans ((World.cell?_alloc_lt w0 _ ⟨g0, 1, none⟩ nl0).trans k1); have k22 : w2.cell? ⟨g0, 2, none⟩ = some (.string rt) := (hb2.cell (by simp; omega)).trans ((World.cell?_alloc_lt w0 _ ⟨g0, 2, none⟩ nl0).trans k2); have hN := ((Blk.new w0 34 #[.string ⟨#[]⟩, .int .i64 0, .string ⟨#[]⟩, .slice none 0 0]).drew).below hb2 (by simp); have n0 := hN.cell 0; have n1 := hN.cell 1; have n2 := hN.cell 2; have n3 := hN.cell 3; have nf0 := hN.frozen 0; have nf1 := hN.frozen 1; have nf2 := hN.frozen 2; have nf3 := hN.frozen 3; simp only [List.getElem?_toArray, List.getElem?_cons_zero, List.getElem?_cons_succ] at n0 n1 n2 n3))
    all_goals
      go_wp2_with fail
      go_meet
      case rel => first | with_reducible exact pt_A hg0 (unhide H1).1 (unhide H1).2.1 hb2 | with_reducible exact pt_B hg0 (unhide H1).1 (unhide H1).2.1 hb2 hN
  case rest =>
    obtain ⟨g5, rfl, hg5, hD5, hN5, hb5⟩ := hcut
    have d0 := hD5.cell 0; have d1 := hD5.cell 1; have d2 := hD5.cell 2; have d3 := hD5.cell 3
    simp only [List.getElem?_toArray, List.getElem?_cons_zero, List.getElem?_cons_succ] at d0 d1 d2 d3
    have f0 := hD5.frozen 0; have f1 := hD5.frozen 1; have f2 := hD5.frozen 2; have f3 := hD5.frozen 3
    have HC := hide (And.intro hD5 (And.intro hN5 hb5)); clear hD5 hN5 hb5 k0 k1 k2 nn0 nn1 nn2 nl0 H1 HNO
    go_upto_if 30 with fail
    go_cut [] (fun wx => ∃ R : ByteArray, 1 ≤ R.size ∧ R.size ≤ 1048576 ∧ Blk wx g5 34 #[.string (namedB o), .int .i64 z, .string R, .slice none 0 0] ∧ Blk wx g0 34 #[.string o, .int .i64 n, .string rt, .slice A es.length c] ∧ Below w.heap.size w wx)
    case first =>
      by_cases hrz : rt.size = 0
      · have h7 : rt.toList = [] := by
          have : rt = ⟨#[]⟩ := by apply ByteArray.ext; exact Array.eq_empty_of_size_eq_zero hrz
          rw [this]; simp
        have h8 : rt.toList.isEmpty = true := by rw [h7]; rfl
        rw [h8]
        clear h7 h8
        go_wp2_with fail
        go_meet
        case rel => exact ⟨⟨#[114]⟩, by decide, by decide, (unhide HC).1.set_ 2 _, (unhide HC).2.1.far (p := ⟨g5, 2, none⟩) (by show g0 ≠ g5; omega) _, (unhide HC).2.2.setCell (p := ⟨g5, 2, none⟩) (Nat.le_of_lt hg5) _⟩
      · have h7 : ¬ rt.toList = [] := fun hh => by
          have h3 := toList_ne (a := rt) (b := ⟨#[]⟩) (fun e => by rw [e] at hrz; exact absurd rfl hrz)
          rw [hh] at h3; simp at h3
        have h8 : rt.toList.isEmpty = false := by cases hh : rt.toList with | nil => exact absurd hh h7 | cons _ _ => rfl
        rw [h8]
        clear h7 h8
        go_wp2_with fail
        go_meet
        case rel => exact ⟨rt, by omega, hr, (unhide HC).1, (unhide HC).2.1, (unhide HC).2.2⟩
    case rest =>
      obtain ⟨R0, hR1, hR2, hD6, hN6, hb6⟩ := hcut
      clear d0 d1 d2 d3 f0 f1 f2 f3 HC
      have d0 := hD6.cell 0; have d1 := hD6.cell 1; have d2 := hD6.cell 2; have d3 := hD6.cell 3
      simp only [List.getElem?_toArray, List.getElem?_cons_zero, List.getElem?_cons_succ] at d0 d1 d2 d3
      have f2 := hD6.frozen 2
      have r1 : (0 : Int) ≤ min (R0.size : Int) 32 := by omega
      have r2 : min (R0.size : Int) 32 ≤ (R0.size : Int) := by omega
      have HC := hide (And.intro hD6 (And.intro hN6 hb6)); clear hD6 hN6 hb6
      go_upto_block 0 with fail
      obtain ⟨R, hRR⟩ : ∃ R, Hid (R0.extract 0 (min (R0.size : Int) 32).toNat = R) := ⟨_, Lib.hid rfl⟩
      have hRz : 1 ≤ R.size ∧ R.size ≤ 32 := by rw [← hRR.out, ByteArray.size_extract]; omega
      rw [hRR.out]
      have hD7 : Blk (wc.setCell ⟨g5, 2, none⟩ (.string R)) g5 34 #[.string (namedB o), .int .i64 z, .string R, .slice none 0 0] := (unhide HC).1.set_ 2 _
      have hN7 := (unhide HC).2.1.far (p := ⟨g5, 2, none⟩) (by show g0 ≠ g5; omega) (.string R)
      have hb7 := (unhide HC).2.2.setCell (p := ⟨g5, 2, none⟩) (Nat.le_of_lt hg5) (.string R)
      generalize wc.setCell ⟨g5, 2, none⟩ (.string R) = w7 at *
      have H7 := hide (And.intro hD7 (And.intro hN7 hb7)); clear hD7 hN7 hb7 HC d0 d1 d2 d3 f2 hRR hR1 hR2 r1 r2
      have h05 : g0 < g5 := by omega
      go_cut [] (fun wx => ∃ v, PtX w wx g0 g5 #[.string o, .int .i64 n, .string rt, .slice A es.length c] (namedB o) z R v ((es.take 20).map namedB))
      case first =>
        go_wp2_with fail
        go_loopw [6] (fun i W => ∃ (k : Nat) (v : Value), i = .int .i64 (k : Int) ∧ k ≤ es.length ∧ k ≤ 20 ∧ PtX w W g0 g5 #[.string o, .int .i64 n, .string rt, .slice A es.length c] (namedB o) z R v ((es.take k).map namedB)) (fun i _ => es.length - (RowKit.intOf i).toNat)
        case atStart => exact ⟨0, _, rfl, by omega, by omega, (unhide H7).1, OwnT.nil _ _, (unhide H7).2.1, (unhide H7).2.2⟩
        case round =>
          clear H7
          obtain ⟨k, v, rfl, hk, hk2, hX⟩ := hrel
          obtain ⟨B, cB, rfl⟩ := hX.own.slice
          rw [List.length_map, List.length_take, Nat.min_eq_left hk] at *
          have n3 := hX.c.cell 3; have d3 := hX.d.cell 3; have f3 := hX.d.frozen 3
          simp only [List.getElem?_toArray, List.getElem?_cons_zero, List.getElem?_cons_succ] at n3 d3
          by_cases hlt : k < es.length ∧ k < 20
          · have t1 : (k : Int) < (es.length : Int) := by omega
            have t2 : (k : Int) < 20 := by omega
            have t0 : (0 : Int) ≤ (k : Int) := by omega
            have HX := hide hX; clear hX
            obtain ⟨a, rfl, hal, hac⟩ := (unhide H0).1 k hlt.1
            have hal2 : (a.add k).block < w.heap.size := by rw [hg0]; exact hal
            have hca := ((unhide HX).below.cell hal2).trans hac
            have hez := linesL_at es k hlt.1
            have hne := fun W => named_any es[k] W (by omega)
            have htk : Hid ((es.take (k + 1)).map namedB = (es.take k).map namedB ++ [namedB es[k]]) := by rw [Hid, List.take_succ_eq_append_getElem hlt.1, List.map_append]; rfl
            generalize es[k] = y at *
            generalize namedB y = ny at *
            have hlen : ((es.take k).map namedB ++ [ny]).length = k + 1 := by simp; omega
            have HNE := hide hne; clear hne hez
            have nn0 := World.new_ne wr _ n3; have nn5 := World.new_ne wr _ d3; have nna := World.new_ne wr _ hca
            have nl0 := World.block_lt_of_cell? wr _ n3; have nl5 := World.block_lt_of_cell? wr _ d3; have nla := World.block_lt_of_cell? wr _ hca
            have ne0 : ¬ g0 = wr.heap.size := Nat.ne_of_lt nl0; have ne5 : ¬ g5 = wr.heap.size := Nat.ne_of_lt nl5; have nea : ¬ (a.add k).block = wr.heap.size := Nat.ne_of_lt nla
            go_wp2_with fail
            go_region_law (first
              | (go_simp; go_at_call 37; (with_reducible refine ((unhide HNE) wr.drew).mono ?_); rintro e w2 ⟨rfl, hb2⟩; have hX2 := (unhide HX).drew.next hb2; have n32 := hX2.c.cell 3; have d32 := hX2.d.cell 3; have f32 := hX2.d.frozen 3; simp only [List.getElem?_toArray, List.getElem?_cons_zero, List.getElem?_cons_succ] at n32 d32; have hca2 : w2.cell? (a.add k) = some (.string y) := (hX2.below.cell hal2).trans hac; have nn02 := World.new_ne w2 _ n32; have nn52 := World.new_ne w2 _ d32; have nl02 := World.block_lt_of_cell? w2 _ n32; have nl52 := World.block_lt_of_cell? w2 _ d32; have nla2 := World.block_lt_of_cell? w2 _ hca2; have ne02 : ¬ g0 = w2.heap.size := Nat.ne_of_lt nl02; have ne52 : ¬ g5 = w2.heap.size := Nat.ne_of_lt nl52; have nea2 : ¬ (a.add k).block = w2.heap.size := Nat.ne_of_lt nla2; have HX2 := hide hX2; clear hX2 hb2)
              | ((with_reducible refine step_appT1 (w2.alloc (.cells #[.string ny] 9)) rfl _ _ rfl ((unhide HX2).alloc _).own rfl (gx := w2.heap.size) (st := ny) (by simp) rfl (by rw [List.length_map, List.length_take]; omega) (by have := (unhide HX2).d.lt; simp; omega) ?_); intro v4 w4 hO4 hg4; obtain ⟨D4, c4, rfl⟩ := hO4.slice; have hX4 := ((unhide HX2).alloc (.cells #[.string ny] 9)).app h05 hg5 hg4; have n34 := hX4.2.1.cell 3; have d34 := hX4.1.cell 3; have f34 := hX4.1.frozen 3; simp only [List.getElem?_toArray, List.getElem?_cons_zero, List.getElem?_cons_succ] at n34 d34; have hca4 : w4.cell? (a.add k) = some (.string y) := (hX4.2.2.cell hal2).trans hac; have HX4 := hide (And.intro hX4 hO4); clear hX4 hO4 hg4))
            all_goals
              go_wp2_with fail
              go_roundw
              case rel => exact ⟨k + 1, _, by go_num, by omega, by omega, by rw [htk.out]; exact PtX.put (unhide HX4).1 h05 hg5 (by have h := (unhide HX4).2; rw [hlen] at h; exact h)⟩
              case measure => simp [RowKit.intOf]; omega
          · have hX2 : PtX w wr g0 g5 #[.string o, .int .i64 n, .string rt, .slice A es.length c] (namedB o) z R (.slice B k cB) ((es.take 20).map namedB) := by
              have e : es.take 20 = es.take k := by
                rcases Nat.lt_or_ge k es.length with h | h
                · have : k = 20 := by omega
                  rw [this]
                · rw [List.take_of_length_le h, List.take_of_length_le (by omega)]
              rw [e]; exact hX
            have HX := hide hX2; clear hX hX2
            by_cases h20 : k < es.length
            · have t1 : (k : Int) < (es.length : Int) := by omega
              have t2 : ¬ (k : Int) < 20 := by omega
              go_wp2_with fail
              go_meet
              case rel => exact ⟨_, unhide HX⟩
            · have t1 : ¬ (k : Int) < (es.length : Int) := by omega
              go_wp2_with fail
              go_meet
              case rel => exact ⟨_, unhide HX⟩
      case rest =>
        obtain ⟨v, hX⟩ := hcut
        obtain ⟨es2, hes2⟩ : ∃ es2, Hid ((es.take 20).map namedB = es2) := ⟨_, Lib.hid rfl⟩
        have hPt : PtOk (namedB o) z R es2 := ⟨namedB_ok o, hz0, hz1, hRz.1, hRz.2, fun x hx => by
          rw [← hes2.out] at hx
          obtain ⟨y, -, rfl⟩ := List.mem_map.1 hx
          exact namedB_ok y, by rw [← hes2.out, List.length_map, List.length_take]; omega⟩
        rw [hes2.out] at hX
        have hnl : (namedB o).size ≤ 64 := by have h1 := namedB_ok o; unfold nameOk at h1; simp only [Bool.and_eq_true, decide_eq_true_eq] at h1; omega
        generalize namedB o = on at *
        clear hes2 hz hz0 hz1
        obtain ⟨-, hP, hU, hM⟩ := unhide H0
        have hw : w.heap.size ≤ w.heap.size := Nat.le_refl _
        have hS5 : PtS w wc g0 g5 #[.string o, .int .i64 n, .string rt, .slice A es.length c] on z R v es2 := ⟨hX, hP.next hX.below, Tabs.below hU hX.below (Tabs.lt3 hU) (Tabs.lt4 hU), hM.below hX.below hM.lt⟩
        have hl2 := linesL_names hPt.hes
        have hl20 := hPt.l20
        have htx := noteTx_any on R z v es2 wc (by omega) (by omega) (by omega) hX.own.toStrs hS5.u
        rw [hPt.text] at htx
        have hpr := hPt.parse; have hsg := point_sign hPt; have hop := point_open hPt; have hTz := hPt.size
        have hNz : (writB (pointT on z R es2) (sgs (pointT on z R es2) [firstK])).size ≤ 65536 := by rw [writB_size]; exact writL_len hTz (fun k hk => by simp at hk; subst hk; decide) (by simp)
        have hGl : (sgs (pointT on z R es2) [firstK]).length ≤ 8 := by rw [sgs_length]; simp
        generalize pointT on z R es2 = T at *
        generalize writB T (sgs T [firstK]) = NB at *
        generalize sgs T [firstK] = G at *
        have hfk : ∀ k ∈ [firstK], k.nm.size ≤ 1099511627776 ∧ k.sc.size ≤ 1099511627776 := fun k hk => by simp at hk; subst hk; decide
        have hpa := fun W hT => parse_any T W (by omega) hT
        have hsn := fun W => signers_any (.slice none 0 0) [] W (fun k hk => by simp at hk) (by simp) ⟨none, 0, rfl, fun j hj => absurd hj (by simp)⟩
        have hsi := fun v W hV hP hU => signN_any T v [firstK] W (by omega) hfk (by simp) hV hP hU
        rw [hsg] at hsi
        have hpo := fun v W hV hP hU hM => open_any NB v [firstK] W (by omega) hfk (by simp) hV hP hU hM
        obtain ⟨B, cB, rfl⟩ := hX.own.slice
        have d0 := hX.d.cell 0; have d1 := hX.d.cell 1; have d2 := hX.d.cell 2; have d3 := hX.d.cell 3
        simp only [List.getElem?_toArray, List.getElem?_cons_zero, List.getElem?_cons_succ] at d0 d1 d2 d3
        have HS := hide hS5; have HTX := hide htx; have HPA := hide hpa; have HPR := hide hpr; have HSN := hide hsn; have HSI := hide hsi; have HPO := hide hpo; have HOX := Lib.hid hop; clear hX hS5 htx hpa hPt hP hU hM hpr hsn hsi hpo hop hsg hfk
        go_wp2_with fail
        refine (unhide HTX).mono ?_
        rintro e w1 ⟨rfl, hb1⟩
        have hS1 := (unhide HS).next hb1
        have HS1 := hide hS1; clear hS1 hb1 HS HTX d0 d1 d2 d3
        go_wp2_with fail
        refine ((unhide HPA) _ (unhide HS1).u).mono ?_
        rintro e w2 ⟨u, zz, rfl, hA, hb2⟩
        obtain ⟨v2, rfl, hO2, rfl⟩ : ∃ v2, u = .agg #[.string on, .int .i64 z, .string R, v2] ∧ OwnT w2 w1.heap.size v2 es2 ∧ zz = 0 := by
          rcases hA with ⟨q, hq, rfl, v', rfl, hO⟩ | ⟨hno, -⟩
          · obtain rfl := ParseR.one (unhide HPR) hq
            exact ⟨v', rfl, hO, rfl⟩
          · exact absurd (unhide HPR) (hno _)
        obtain ⟨F, cF, rfl⟩ := hO2.slice
        have hS2 := (unhide HS1).next hb2
        have hba : Below w2.heap.size w2 (w2.alloc (.cells #[.string on, .int .i64 z, .string R, .slice F es2.length cF] 34)) := (Below.refl _ _).alloc (Nat.le_refl _) _
        have hF2 : PtF w (w2.alloc (.cells #[.string on, .int .i64 z, .string R, .slice F es2.length cF] 34)) g0 g5 w2.heap.size w1.heap.size #[.string o, .int .i64 n, .string rt, .slice A es.length c] on z R (.slice B es2.length cB) (.slice F es2.length cF) es2 := ⟨hS2.next hba, Blk.new _ _ _, hO2.below hba⟩
        have HF2 := hide hF2; clear hS2 hb2 hA HS1 HPA HPR hO2 hba hF2
        go_wp2_with fail
        generalize w2.alloc (.cells #[.string on, .int .i64 z, .string R, .slice F es2.length cF] 34) = w2' at *
        generalize w2.heap.size = gf at *
        refine ((unhide HSN) _).mono ?_
        rintro e w3 ⟨v3, rfl, hK3, hb3⟩
        obtain ⟨A3, c3, rfl⟩ := hK3.slice
        have hF3 := (unhide HF2).next hb3
        have hsi := (unhide HSI) _ w3 hK3.toKeys hF3.s.p hF3.s.u
        have HF3 := hide hF3; have HSI3 := hide hsi; clear hF3 hsi HF2 HSI hb3 hK3
        go_wp2_with fail
        refine (unhide HSI3).mono ?_
        rintro e w4 ⟨rfl, hb4⟩
        have HF4 := hide ((unhide HF3).next hb4); clear HF3 HSI3 hb4
        go_wp2_with fail
        refine ((unhide HSN) _).mono ?_
        rintro e w5 ⟨v5, rfl, hK5, hb5'⟩
        obtain ⟨A5, c5, rfl⟩ := hK5.slice
        have hF5 := (unhide HF4).next hb5'
        have hpo := (unhide HPO) _ w5 hK5.toKeys hF5.s.p hF5.s.u hF5.s.m
        have HF5 := hide hF5; have HPO5 := hide hpo; clear hF5 hpo HF4 HPO hb5' hK5
        go_wp2_with fail
        refine (unhide HPO5).mono ?_
        rintro e w6 ⟨hR6, hb6'⟩
        obtain ⟨vg, vr, rfl, hog, hor, -⟩ := hR6.parts
        rw [HOX.out] at hog hor ⊢
        obtain ⟨Ag, cg, rfl⟩ := hog.slice
        obtain ⟨Ar, cr, rfl⟩ := hor.slice
        have hF6 := ((unhide HF5).next hb6').next ((Below.refl _ _).alloc (Nat.le_refl _) (.cells #[.string T, .slice Ag G.length cg, .slice Ar 0 cr] 53))
        have hO6 := Blk.new w6 53 #[.string T, .slice Ag G.length cg, .slice Ar 0 cr]
        have HF6 := hide (And.intro hF6 hO6); clear HF5 HPO5 hb6' hR6 hog hor hF6 hO6
        simp only [List.length_nil]
        go_wp2_with fail
        generalize w6.alloc (.cells #[.string T, .slice Ag G.length cg, .slice Ar 0 cr] 53) = w6' at *
        generalize w6.heap.size = go6 at *
        obtain ⟨hF6, hO6⟩ := unhide HF6
        have d0 := hF6.s.x.d.cell 0; have d1 := hF6.s.x.d.cell 1; have d2 := hF6.s.x.d.cell 2; have d3 := hF6.s.x.d.cell 3
        have f0 := hF6.f.cell 0; have f1 := hF6.f.cell 1; have f2 := hF6.f.cell 2; have f3 := hF6.f.cell 3
        have m0 := hO6.cell 0
        simp only [List.getElem?_toArray, List.getElem?_cons_zero, List.getElem?_cons_succ] at d0 d1 d2 d3 f0 f1 f2 f3 m0
        clear hF6 hO6
        refine (numl_any 0 _ (by decide)).mono ?_
        rintro e x1 ⟨rfl, hx⟩
        subst hx
        go_wp2_with fail
        refine (numl_any 0 _ (by decide)).mono ?_
        rintro e x1 ⟨rfl, hx⟩
        subst hx
        go_wp2_with fail
        refine (numl_any 0 _ (by decide)).mono ?_
        rintro e x1 ⟨rfl, hx⟩
        subst hx
        go_wp2_with fail
        refine (numl_any 0 _ (by decide)).mono ?_
        rintro e x1 ⟨rfl, hx⟩
        subst hx
        go_wp2_with fail
        have hal := alike_any on R z (.slice B es2.length cB) (.slice F es2.length cF) es2 w6' (by omega) (unhide HF6).1.s.x.own.toStrs (unhide HF6).1.own.toStrs
        refine hal.mono ?_
        rintro e w7' ⟨rfl, hb7⟩
        have hO7 := (unhide HF6).2.below hb7 (unhide HF6).2.lt
        have m7 := hO7.cell 0
        simp only [List.getElem?_toArray, List.getElem?_cons_zero, List.getElem?_cons_succ] at m7
        have hF7 := (unhide HF6).1.next hb7
        have hpb := parse_any b w7' (by omega) hF7.s.u
        have htt : (T.toList == T.toList) = true := beq_self_eq_true _
        have HF7 := hide (And.intro hF7.s.x.below hF7.s.u); have HPB := hide hpb; clear hal hF7 hpb hO7 hb7 HF6 d0 d1 d2 d3 f0 f1 f2 f3 m0
        go_wp2_with fail
        refine (unhide HPB).mono ?_
        rintro e w8 ⟨u, zz, rfl, hA, hb8⟩
        have hw8 := (unhide HF7).1.trans (hb8.mono (unhide HF7).1.size)
        have hU8 := Tabs.below (unhide HF7).2 hb8 (Tabs.lt3 (unhide HF7).2) (Tabs.lt4 (unhide HF7).2)
        rcases hA with ⟨q, hq, rfl, vq, rfl, hOq⟩ | ⟨hno, rfl, rfl⟩
        · obtain ⟨dq, rq, hl, hd, hrq, htq⟩ := hq
          have hlen := linesV_len hl
          rw [linesL_cons, linesL_cons, linesL_cons] at hlen
          have hrs := b64S_size q.r
          rw [unb64V_some hrq] at hrs
          have hll := linesL_ge q.es
          obtain ⟨Q, cQ, rfl⟩ := hOq.slice
          have hba : Below w8.heap.size w8 (w8.alloc (.cells #[.string q.o, .int .i64 q.n, .string q.r, .slice Q q.es.length cQ] 34)) := (Below.refl _ _).alloc (Nat.le_refl _) _
          have hOq9 := hOq.below hba
          have hU9 := Tabs.below hU8 hba (Tabs.lt3 hU8) (Tabs.lt4 hU8)
          have hw9 := hw8.trans (hba.mono hw8.size)
          have hN9 := Blk.new w8 34 #[.string q.o, .int .i64 q.n, .string q.r, .slice Q q.es.length cQ]
          have htx2 := noteTx_any q.o q.r q.n _ q.es _ (by omega) (by omega) (by omega) hOq9.toStrs hU9
          rw [htq] at htx2
          have hbb : (b.toList == b.toList) = true := beq_self_eq_true _
          have HTX2 := hide htx2; have HN9 := hide (And.intro hN9 hw9); clear hlen hrs hll htq hl hd hrq hOq hOq9 hU9 hU8 hw8 hba hN9 hw9 htx2 hb8 HF7 HPB
          go_wp2_with fail
          generalize w8.alloc (.cells #[.string q.o, .int .i64 q.n, .string q.r, .slice Q q.es.length cQ] 34) = w9 at *
          generalize w8.heap.size = gq at *
          refine (numl_any 0 _ (by decide)).mono ?_
          rintro e x1 ⟨rfl, hx⟩
          subst hx
          have e0 := (unhide HN9).1.cell 0; have e1 := (unhide HN9).1.cell 1; have e2 := (unhide HN9).1.cell 2; have e3 := (unhide HN9).1.cell 3
          simp only [List.getElem?_toArray, List.getElem?_cons_zero, List.getElem?_cons_succ] at e0 e1 e2 e3
          go_wp2_with fail
          refine (unhide HTX2).mono ?_
          rintro e y1 ⟨rfl, hby⟩
          have HW := hide ((unhide HN9).2.trans (hby.mono (unhide HN9).2.size)); clear hby HN9 HTX2 e0 e1 e2 e3
          go_wp2_with fail
          refine (numl_any 0 _ (by decide)).mono ?_
          rintro e x1 ⟨rfl, hx⟩
          subst hx
          go_wp2_with fail
          go_ret
          exact ⟨rfl, unhide HW⟩
        · have HW := hide hw8; clear hw8 hU8 hb8 hno HF7 HPB
          unfold noPt
          have hba : Below w8.heap.size w8 (w8.alloc (.cells #[.string ⟨#[]⟩, .int .i64 0, .string ⟨#[]⟩, .slice none 0 0] 34)) := (Below.refl _ _).alloc (Nat.le_refl _) _
          have hw9 := (unhide HW).trans (hba.mono (unhide HW).size)
          have hN9 := Blk.new w8 34 #[.string ⟨#[]⟩, .int .i64 0, .string ⟨#[]⟩, .slice none 0 0]
          have HN9 := hide (And.intro hN9 hw9); clear hba hw9 hN9 HW
          go_wp2_with fail
          generalize w8.alloc (.cells #[.string ⟨#[]⟩, .int .i64 0, .string ⟨#[]⟩, .slice none 0 0] 34) = w9 at *
          generalize w8.heap.size = gq at *
          refine (numl_any 204 _ (by decide)).mono ?_
          rintro e x1 ⟨rfl, hx⟩
          subst hx
          have e0 := (unhide HN9).1.cell 0; have e1 := (unhide HN9).1.cell 1; have e2 := (unhide HN9).1.cell 2; have e3 := (unhide HN9).1.cell 3
          simp only [List.getElem?_toArray, List.getElem?_cons_zero, List.getElem?_cons_succ] at e0 e1 e2 e3
          go_wp2_with fail
          refine (numl_any 204 _ (by decide)).mono ?_
          rintro e x1 ⟨rfl, hx⟩
          subst hx
          go_wp2_with fail
          refine (alike_any ⟨#[]⟩ ⟨#[]⟩ 0 (.slice none 0 0) (.slice none 0 0) [] w9 (by simp) ⟨none, 0, rfl, fun j hj => absurd hj (by simp)⟩ ⟨none, 0, rfl, fun j hj => absurd hj (by simp)⟩).mono ?_
          rintro e y1 ⟨rfl, hby⟩
          have HW := hide ((unhide HN9).2.trans (hby.mono (unhide HN9).2.size)); clear hby HN9 e0 e1 e2 e3
          go_wp2_with fail
          go_ret
          exact ⟨rfl, unhide HW⟩
set_option maxRecDepth 100000 in
theorem notePoint_walk {H : Type} {enc : TypeId × Value → H} (W : World) (base : Nat) (v0 : Value) (d0 : DataW H) (p0 : List MemPlace) (v1 : Value) (d1 : DataW H) (p1 : List MemPlace) (o0 : Value.okWide Tryd.prog W .any base 34 v0) (h0 : DataW.Trod enc Tryd.prog W 0 (fun _ => true) true 34 v0 d0 p0) (l0 : ∀ x ∈ p0, x.block < W.heap.size) (o1 : Value.okWide Tryd.prog W .any base 9 v1) (h1 : DataW.Trod enc Tryd.prog W 0 (fun _ => true) true 9 v1 d1 p1) (l1 : ∀ x ∈ p1, x.block < W.heap.size) (hz : (DataW.weightsEach Tryd.prog [34, 9] ([d0, d1] : List (DataW H))).all (· ≤ reachBytes) = true) (hk : Rows.uptoBulkAll ([d0, d1] : List (DataW H)) ≤ 1048576) (hL : laidMetH Tryd.prog Rows.notePointUptoRow.laid W) (hsh : W.ShapedOpen Tryd.prog) :
    Calls Tryd.prog 12 #[v0, v1] W fun e W' => e = .returned (.bool true) ∧ Below W.heap.size W W' := by
  have hT := utf8_of (laidMet_plain (by kernel_rfl) hL) (.tail _ (.tail _ (.tail _ (.head _)))) (.tail _ (.tail _ (.head _)))
  have hP := sha_laidP (laid := Rows.notePointUptoRow.laid) (by kernel_rfl) hL (.head _) (.tail _ (.head _))
  obtain ⟨o, n, rt, x, es, rfl, hS, hw⟩ := open_cp o0 h0
  obtain ⟨s, rfl, rfl, -⟩ := Go.ChangeMaps.open_string Tryd.underlying9 o1 h1
  simp only [Rows.uptoBulkAll, Rows.uptoBulk, Array.length_toList] at hk
  have hsz : s.data.size = s.size := rfl
  exact lawPoint_any o rt n x es s W (by omega) (by omega) (by omega) (by omega) hS hP hT (max_is hsh)
end Go.Proofs.YtfhaoamlagnpjaaDoor

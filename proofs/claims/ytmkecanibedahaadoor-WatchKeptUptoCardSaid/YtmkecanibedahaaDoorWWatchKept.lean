/-
  THE WALK of the law WatchKept.
-/
import Derived.Test.YtmkecanibedahaaDoorRows
import Derived.Test.YtmkecanibedahaaDoorWd
import Derived.Test.YtmkecanibedahaaDoorStrRow
import Derived.Test.YtmkecanibedahaaDoorKept
import Derived.Test.YtmkecanibedahaaDoorRKept
import Derived.Test.YtmkecanibedahaaDoorOpenKept
import Derived.Test.YtmkecanibedahaaDoorLaid
set_option linter.unusedVariables false
set_option linter.unusedSimpArgs false
namespace Go.Proofs.YtmkecanibedahaaDoor
open Go.RowKit Go.Lib
theorem own_some {w : World} {base : Nat} {v : Value} {es : List ByteArray} (h : OwnT w base v es) (hne : es ≠ []) : ∃ g cap, v = .slice (some ⟨g, 0, none⟩) es.length cap ∧ base ≤ g ∧ g < w.heap.size ∧ es.length ≤ cap := by
  rcases h.form with ⟨_, he⟩ | h
  · exact absurd he hne
  · exact h
/-- What stands while the law runs: the two boxed arguments and the own list. -/
def KW (w : World) (g cap : Nat) (c d : Array Value) (full : List ByteArray) (X : World) : Prop :=
  Below w.heap.size w X ∧ Blk X w.heap.size 23 c ∧ Blk X (w.heap.size + 1) 26 d ∧ OwnT X (w.heap.size + 2) (.slice (some ⟨g, 0, none⟩) full.length cap) full
theorem KW.next {w : World} {g cap : Nat} {c d : Array Value} {full : List ByteArray} {X Y : World} (h : KW w g cap c d full X) (hb : Below X.heap.size X Y) : KW w g cap c d full Y :=
  ⟨h.1.trans (hb.mono h.1.size), h.2.1.below hb h.2.1.lt, h.2.2.1.below hb h.2.2.1.lt, h.2.2.2.below hb⟩
theorem KW.drew {w : World} {g cap : Nat} {c d : Array Value} {full : List ByteArray} {X : World} (h : KW w g cap c d full X) : KW w g cap c d full X.drew := h.next (Below.refl _ _).drew
set_option maxRecDepth 100000 in
set_option maxHeartbeats 4000000 in
theorem lawKept_any (z : Int) (ph : ByteArray) (p1 due : Int) (p3 leaf o : ByteArray) (sz : Int) (rt : ByteArray) (sl : Value) (A : Option Addr) (c : Nat) (es : List ByteArray) (t : Int) (w : World)
    (hn : es.length ≤ 1048576) (hc : es.length ≤ c) (hx : ∀ x ∈ es, x.size ≤ 1048576) (hlf : leaf.size ≤ 1048576) (hS : StrsAt w (.slice A es.length c) es) (hT : PTab w) (hR : RTab w) (hsl : ∃ A n k, sl = .slice A n k) :
    Calls Tryd.prog 3 #[.int .i64 z, .agg #[.string ph, .int .i64 p1, .int .i64 due, .string p3], .string leaf, .agg #[.string o, .int .i64 sz, .string rt, sl], .slice A es.length c, .int .i64 t] w fun e w' => e = .returned (.bool true) ∧ Below w.heap.size w w' := by
  obtain ⟨A0, n0, k0, rfl⟩ := hsl
  have hb0 : Below w.heap.size w ((w.alloc (.cells #[.string ph, .int .i64 p1, .int .i64 due, .string p3] 23)).alloc (.cells #[.string o, .int .i64 sz, .string rt, .slice A0 n0 k0] 26)) := ((Below.refl _ _).alloc (Nat.le_refl _) _).alloc (by simp) _
  have hBp : Blk ((w.alloc (.cells #[.string ph, .int .i64 p1, .int .i64 due, .string p3] 23)).alloc (.cells #[.string o, .int .i64 sz, .string rt, .slice A0 n0 k0] 26)) w.heap.size 23 #[.string ph, .int .i64 p1, .int .i64 due, .string p3] := (Blk.new w _ _).alloc _
  have hBc : Blk ((w.alloc (.cells #[.string ph, .int .i64 p1, .int .i64 due, .string p3] 23)).alloc (.cells #[.string o, .int .i64 sz, .string rt, .slice A0 n0 k0] 26)) (w.alloc (.cells #[.string ph, .int .i64 p1, .int .i64 due, .string p3] 23)).heap.size 26 #[.string o, .int .i64 sz, .string rt, .slice A0 n0 k0] := Blk.new _ _ _
  rw [show (w.alloc (.cells #[.string ph, .int .i64 p1, .int .i64 due, .string p3] 23)).heap.size = w.heap.size + 1 from by simp] at hBc
  have hs0 : w.heap.size + 2 = ((w.alloc (.cells #[.string ph, .int .i64 p1, .int .i64 due, .string p3] 23)).alloc (.cells #[.string o, .int .i64 sz, .string rt, .slice A0 n0 k0] 26)).heap.size := by simp
  have HH := hide (And.intro hS (And.intro hT (And.intro hR hx))); clear hS hT hR hx
  generalize hw0 : ((w.alloc (.cells #[.string ph, .int .i64 p1, .int .i64 due, .string p3] 23)).alloc (.cells #[.string o, .int .i64 sz, .string rt, .slice A0 n0 k0] 26)) = w0 at *
  have HW0 := Lib.hid hw0; clear hw0
  have H0 := hide (And.intro hBp (And.intro hBc (And.intro hb0 hs0))); clear hBp hBc hb0 hs0
  go_enter Tryd.func3, Tryd.ntmps3
  go_wp2_with (first | (at_builtin; rw [HW0.out]; refine wpList_appT _ rfl (.tmp 20) (.tmp 21) rfl (OwnT.nil _ (w.heap.size + 2)) rfl ((unhide HH).1.below (unhide H0).2.2.1) rfl (by simp; omega) (by have := (unhide H0).2.2.2; omega) ?_; intro v1 w1 hO1 hg1 hat1; have H1 := hide (And.intro hO1 (And.intro hg1 hat1)); clear hO1 hg1 hat1) | (at_builtin; refine wpList_appT1 w1 rfl (.tmp 23) (.tmp 24) rfl (unhide H1).1 rfl rfl (by simp; omega) (by have := (unhide H1).2.1.size; have := (unhide H0).2.2.2; simp at *; omega) ?_; intro v2 w2 hO2 hg2 hat2; obtain ⟨g, cap, rfl, hgb, hgl, hcap⟩ := own_some hO2 (by simp); have H2 := hide (And.intro hO2 (And.intro hg2 hat2)); clear hO2 hg2 hat2))
  have hw1 : Below w.heap.size w w1 := (unhide H0).2.2.1.grown (unhide H1).2.1 (unhide H0).2.2.1.size (fun k hk => by simp [Value.ownBlock] at hk)
  have hp1 := (unhide H0).1.grown (unhide H1).2.1 (by simp [Value.ownBlock])
  have hc1 := (unhide H0).2.1.grown (unhide H1).2.1 (by simp [Value.ownBlock])
  have nz : ∀ k, v1.ownBlock = some k → w.heap.size + 2 ≤ k := fun k hk => (World.ownsRow.lt (unhide H1).1 _ hk).1
  have hK2 : KW w g cap #[.string ph, .int .i64 p1, .int .i64 due, .string p3] #[.string o, .int .i64 sz, .string rt, .slice A0 n0 k0] (es ++ [⟨#[109, 97, 114, 107]⟩]) w2 :=
    ⟨(hw1.alloc hw1.size _).grown (unhide H2).2.1 (by have := hw1.size; simp; omega) (fun k hk => by have := nz k hk; omega), (hp1.alloc _).grown (unhide H2).2.1 (fun e => by have := nz _ e.symm; omega), (hc1.alloc _).grown (unhide H2).2.1 (fun e => by have := nz _ e.symm; omega), (unhide H2).1⟩
  have hcap' : es.length ≤ cap := by simp at hcap; omega
  have HK := hide hK2
  clear hw1 hp1 hc1 nz hK2 H1 H2 H0 HW0 hcap
  have hown : ∀ X, KW w g cap #[.string ph, .int .i64 p1, .int .i64 due, .string p3] #[.string o, .int .i64 sz, .string rt, .slice A0 n0 k0] (es ++ [⟨#[109, 97, 114, 107]⟩]) X → StrsAt X (.slice (some ⟨g, 0, none⟩) es.length cap) es := fun X h => by
    have h2 := h.2.2.2.strs es.length cap (by simp)
    rwa [List.take_left] at h2
  have hkc := fun X (h : KW w g cap #[.string ph, .int .i64 p1, .int .i64 due, .string p3] #[.string o, .int .i64 sz, .string rt, .slice A0 n0 k0] (es ++ [⟨#[109, 97, 114, 107]⟩]) X) => kept_any z ph p1 due p3 leaf o sz rt (.slice A0 n0 k0) g cap es t X (by omega) hcap' (fun x hx => by have := (unhide HH).2.2.2 x hx; omega) (by omega) (hown X h) ((unhide HH).2.1.next h.1) ⟨_, _, _, rfl⟩
  have hrc := fun X (h : KW w g cap #[.string ph, .int .i64 p1, .int .i64 due, .string p3] #[.string o, .int .i64 sz, .string rt, .slice A0 n0 k0] (es ++ [⟨#[109, 97, 114, 107]⟩]) X) => rkept_any z ph p1 due p3 leaf o sz rt (.slice A0 n0 k0) A c es t X (by omega) hc (fun x hx => by have := (unhide HH).2.2.2 x hx; omega) (by omega) ((unhide HH).1.below h.1) ((unhide HH).2.2.1.next h.1) ⟨_, _, _, rfl⟩
  have hst := fun X (h : KW w g cap #[.string ph, .int .i64 p1, .int .i64 due, .string p3] #[.string o, .int .i64 sz, .string rt, .slice A0 n0 k0] (es ++ [⟨#[109, 97, 114, 107]⟩]) X) => sameTexts_any _ _ es X (by omega) (hown X h) ((unhide HH).1.below h.1)
  generalize keptV z ph due leaf sz rt es t = V at *
  obtain ⟨b, n⟩ := V
  have hbb : (b == b) = true := beq_self_eq_true b
  have hnn : (n == n) = true := beq_self_eq_true n
  have HC := hide (And.intro hkc (And.intro hrc hst)); clear hkc hrc hst hown HH
  have c0 := (unhide HK).2.1.cell 0; have c1 := (unhide HK).2.1.cell 1; have c2 := (unhide HK).2.1.cell 2; have c3 := (unhide HK).2.1.cell 3
  have d0 := (unhide HK).2.2.1.cell 0; have d1 := (unhide HK).2.2.1.cell 1; have d2 := (unhide HK).2.2.1.cell 2; have d3 := (unhide HK).2.2.1.cell 3
  simp only [List.getElem?_toArray, List.getElem?_cons_zero, List.getElem?_cons_succ] at c0 c1 c2 c3 d0 d1 d2 d3
  have i0 : (0 : Int) ≤ (es.length : Int) := by omega
  have i1 : (es.length : Int) ≤ (cap : Int) := by omega
  have i2 : es.length ≤ cap := hcap'
  go_region_held3 (fun W => W.cell? ⟨w.heap.size, 0, none⟩ = some (.string ph) ∧ W.cell? ⟨w.heap.size, 1, none⟩ = some (.int .i64 p1) ∧ W.cell? ⟨w.heap.size, 2, none⟩ = some (.int .i64 due) ∧ W.cell? ⟨w.heap.size, 3, none⟩ = some (.string p3) ∧ W.cell? ⟨w.heap.size + 1, 0, none⟩ = some (.string o) ∧ W.cell? ⟨w.heap.size + 1, 1, none⟩ = some (.int .i64 sz) ∧ W.cell? ⟨w.heap.size + 1, 2, none⟩ = some (.string rt) ∧ W.cell? ⟨w.heap.size + 1, 3, none⟩ = some (.slice A0 n0 k0)) (refine ⟨?_, ?_, ?_, ?_, ?_, ?_, ?_, ?_⟩ <;> assumption) (first | (go_at_call 4; refine ((unhide HC).1 _ (unhide HK).drew).mono ?_; rintro e w3 ⟨rfl, hb3⟩; have hk3 := (unhide HK).drew.next hb3; have HK3 := hide hk3; clear hk3; have e0 := (unhide HK3).2.1.cell 0; have e1 := (unhide HK3).2.1.cell 1; have e2 := (unhide HK3).2.1.cell 2; have e3 := (unhide HK3).2.1.cell 3; have f0 := (unhide HK3).2.2.1.cell 0; have f1 := (unhide HK3).2.2.1.cell 1; have f2 := (unhide HK3).2.2.1.cell 2; have f3 := (unhide HK3).2.2.1.cell 3; simp only [List.getElem?_toArray, List.getElem?_cons_zero, List.getElem?_cons_succ] at e0 e1 e2 e3 f0 f1 f2 f3))
  clear c0 c1 c2 c3 d0 d1 d2 d3 hb3
  go_wp2_with fail
  refine ((unhide HC).2.1 _ (unhide HK3)).mono ?_
  rintro e w4 ⟨rfl, hb4⟩
  have hk4 := (unhide HK3).next hb4
  have HK4 := hide hk4
  clear e0 e1 e2 e3 f0 f1 f2 f3 hb4 hk4 HK HK3
  go_wp2_with fail
  refine ((unhide HC).2.2 _ (unhide HK4)).mono ?_
  rintro e w5 ⟨rfl, nd, rfl⟩
  have cb := (unhide HK4).2.2.2.cell es.length (by simp)
  rw [List.getElem_append_right (Nat.le_refl _)] at cb
  simp only [Nat.sub_self, List.getElem_cons_zero] at cb
  have cb' : (w4.drewN nd).cell? ⟨g, es.length, none⟩ = some (.string ⟨#[109, 97, 114, 107]⟩) := cb
  have hlen1 : (es.length : Int) < (es.length : Int) + 1 := by omega
  go_wp2_with fail
  go_ret
  exact ⟨rfl, below_drewN (unhide HK4).1 nd⟩
theorem kept_tables {w : World} (hL : laidMetH Tryd.prog Rows.watchKeptUptoRow.laid w) : TabOk w ∧ BeginOk w ∧ TabOkR w ∧ FirstOk w := by
  refine sha_laid (laid := Rows.watchKeptUptoRow.laid) (by kernel_rfl) hL ?_ ?_ ?_ ?_
  · exact .tail _ (.tail _ (.head _))
  · exact .tail _ (.tail _ (.tail _ (.head _)))
  · exact .head _
  · exact .tail _ (.head _)
set_option maxRecDepth 100000 in
theorem watchKept_walk {H : Type} {enc : TypeId × Value → H} (W : World) (base : Nat) (v0 : Value) (d0 : DataW H) (p0 : List MemPlace) (v1 : Value) (d1 : DataW H) (p1 : List MemPlace) (v2 : Value) (d2 : DataW H) (p2 : List MemPlace) (v3 : Value) (d3 : DataW H) (p3 : List MemPlace) (v4 : Value) (d4 : DataW H) (p4 : List MemPlace) (v5 : Value) (d5 : DataW H) (p5 : List MemPlace) (o0 : Value.okWide Tryd.prog W .any base 3 v0) (h0 : DataW.Trod enc Tryd.prog W 0 (fun _ => true) true 3 v0 d0 p0) (l0 : ∀ x ∈ p0, x.block < W.heap.size) (o1 : Value.okWide Tryd.prog W .any base 23 v1) (h1 : DataW.Trod enc Tryd.prog W 0 (fun _ => true) true 23 v1 d1 p1) (l1 : ∀ x ∈ p1, x.block < W.heap.size) (o2 : Value.okWide Tryd.prog W .any base 9 v2) (h2 : DataW.Trod enc Tryd.prog W 0 (fun _ => true) true 9 v2 d2 p2) (l2 : ∀ x ∈ p2, x.block < W.heap.size) (o3 : Value.okWide Tryd.prog W .any base 26 v3) (h3 : DataW.Trod enc Tryd.prog W 0 (fun _ => true) true 26 v3 d3 p3) (l3 : ∀ x ∈ p3, x.block < W.heap.size) (o4 : Value.okWide Tryd.prog W .any base 24 v4) (h4 : DataW.Trod enc Tryd.prog W 0 (fun _ => true) true 24 v4 d4 p4) (l4 : ∀ x ∈ p4, x.block < W.heap.size) (o5 : Value.okWide Tryd.prog W .any base 3 v5) (h5 : DataW.Trod enc Tryd.prog W 0 (fun _ => true) true 3 v5 d5 p5) (l5 : ∀ x ∈ p5, x.block < W.heap.size) (hz : (DataW.weightsEach Tryd.prog [3, 23, 9, 26, 24, 3] ([d0, d1, d2, d3, d4, d5] : List (DataW H))).all (· ≤ reachBytes) = true) (hk : Rows.uptoBulkAll ([d0, d1, d2, d3, d4, d5] : List (DataW H)) ≤ 1048576) (hL : laidMetH Tryd.prog Rows.watchKeptUptoRow.laid W) (hsh : W.ShapedOpen Tryd.prog) :
    Calls Tryd.prog 3 #[v0, v1, v2, v3, v4, v5] W fun e W' => e = .returned (.bool true) ∧ Below W.heap.size W W' := by
  obtain ⟨t1, t2, t3, t4⟩ := kept_tables hL
  obtain ⟨z, rfl, rfl, -, -⟩ := Go.ChangeShapes.open_int Tryd.underlying3 o0 h0
  obtain ⟨ph, p1', due, p3', rfl, b1⟩ := open_promise o1 h1
  obtain ⟨leaf, rfl, rfl, -⟩ := Go.ChangeMaps.open_string Tryd.underlying9 o2 h2
  obtain ⟨o, sz, rt, sl, es', rfl, hsl, b3⟩ := open_cpt o3 h3
  obtain ⟨A, c, es, rfl, hc, hS, b4⟩ := open_list o4 h4
  obtain ⟨t, rfl, rfl, -, -⟩ := Go.ChangeShapes.open_int Tryd.underlying3 o5 h5
  simp only [Rows.uptoBulkAll, Rows.uptoBulk, Array.length_toList] at hk
  have hsz : leaf.data.size = leaf.size := rfl
  have hl := textsW_len es
  obtain ⟨A0, c0, rfl, -⟩ := hsl
  exact lawKept_any z ph p1' due p3' leaf o sz rt _ A c es t W (by omega) hc (fun x hx => by have := textsW_mem hx; omega) (by omega) hS ⟨t1, t2⟩ ⟨t3, t4⟩ ⟨_, _, _, rfl⟩
end Go.Proofs.YtmkecanibedahaaDoor

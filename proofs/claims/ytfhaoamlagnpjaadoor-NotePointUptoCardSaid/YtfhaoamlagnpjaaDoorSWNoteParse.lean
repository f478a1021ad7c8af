/-
  THE WALK of the law NoteParse.
-/
import Derived.Test.YtfhaoamlagnpjaaDoorRows
import Derived.Test.YtfhaoamlagnpjaaDoorGBase
import Derived.Test.YtfhaoamlagnpjaaDoorSParse
import Derived.Test.YtfhaoamlagnpjaaDoorSRParse
import Derived.Test.YtfhaoamlagnpjaaDoorGTx
import Derived.Test.YtfhaoamlagnpjaaDoorGLay
set_option linter.unusedVariables false
set_option linter.unusedSimpArgs false
namespace Go.Proofs.YtfhaoamlagnpjaaDoor
open Go.RowKit Go.Lib
set_option maxRecDepth 100000 in
set_option maxHeartbeats 1000000 in
theorem alike_any (o r : ByteArray) (n : Int) (a b : Value) (es : List ByteArray) (w : World) (hn : es.length ≤ 1099511627776) (ha : StrsAt w a es) (hb : StrsAt w b es) :
    Calls Tryd.prog 21 #[.agg #[.string o, .int .i64 n, .string r, a], .agg #[.string o, .int .i64 n, .string r, b]] w fun e w' => e = .returned (.bool true) ∧ Below w.heap.size w w' := by
  obtain ⟨A, c, rfl, -⟩ := id ha
  obtain ⟨B, d, rfl, -⟩ := id hb
  have HA := hide ha; have HB := hide hb; clear ha hb
  go_enter Tryd.func21, Tryd.ntmps21
  go_wp2_with fail
  have hb0 : Below w.heap.size w ((w.alloc (.cells #[.string o, .int .i64 n, .string r, .slice A es.length c] 34)).alloc (.cells #[.string o, .int .i64 n, .string r, .slice B es.length d] 34)) := ((Below.refl _ _).alloc (Nat.le_refl _) _).alloc (by simp) _
  refine (texts_eq _ _ es _ hn (((unhide HA).alloc _).alloc _) (((unhide HB).alloc _).alloc _)).mono ?_
  rintro e w1 ⟨rfl, nd, rfl⟩
  go_wp2_with fail
  go_ret
  exact ⟨rfl, below_drewN hb0 nd⟩
set_option maxRecDepth 100000 in
set_option maxHeartbeats 1000000 in
theorem lawParse_any (s : ByteArray) (w : World) (hs : s.size ≤ 1099511627776) (hT : Lib.Utf8Tabs 3 4 w) :
    Calls Tryd.prog 6 #[.string s] w fun e W' => e = .returned (.bool true) ∧ Below w.heap.size w W' := by
  have hp := parse_any s w hs hT
  have hq := fun W => rparse_any s W hs
  have HP := hide hp; have HQ := hide hq; clear hp hq
  go_enter Tryd.func6, Tryd.ntmps6
  go_wp2_with fail
  refine (unhide HP).mono ?_
  rintro e w1 ⟨u, z, rfl, hA, hb1⟩
  have hq2 := unhide HQ
  have hcl : (∃ q, ParseR s q) ∨ ∀ q, ¬ ParseR s q := by
    by_cases h : ∃ q, ParseR s q
    · exact .inl h
    · exact .inr fun q hq => h ⟨q, hq⟩
  have hform : ∃ (o r : ByteArray) (n : Int) (v : Value) (es : List ByteArray), u = .agg #[.string o, .int .i64 n, .string r, v] ∧ StrsAt w1 v es ∧ es.length ≤ 1099511627776 ∧ z < 1000 ∧ ∀ (W W' : World) (u' : Value) (z' : Nat), ParseA W.heap.size s u' z' W' → ∃ v', u' = .agg #[.string o, .int .i64 n, .string r, v'] ∧ StrsAt W' v' es ∧ z' = z := by
    rcases hA with ⟨q, hq, rfl, v, rfl, hO⟩ | ⟨hno, rfl, rfl⟩
    · have hlen : q.es.length ≤ 1099511627776 := by
        obtain ⟨d, r, h1, -⟩ := hq
        have h2 := linesV_len h1
        rw [linesL_cons, linesL_cons, linesL_cons] at h2
        have := linesL_ge q.es
        omega
      refine ⟨_, _, _, v, q.es, rfl, hO.toStrs, hlen, by decide, ?_⟩
      rintro W W' u' z' (⟨q', hq', rfl, v', rfl, hO'⟩ | ⟨hno, -⟩)
      · obtain rfl := ParseR.one hq hq'
        exact ⟨v', rfl, hO'.toStrs, rfl⟩
      · exact absurd hq (hno q)
    · refine ⟨_, _, _, _, [], rfl, ⟨none, 0, rfl, fun j hj => absurd hj (by simp)⟩, by simp, by decide, ?_⟩
      rintro W W' u' z' (⟨q', hq', -⟩ | ⟨-, rfl, rfl⟩)
      · exact absurd hq' (hno q')
      · exact ⟨_, rfl, ⟨none, 0, rfl, fun j hj => absurd hj (by simp)⟩, rfl⟩
  obtain ⟨o, r, n, v, es, rfl, hS, hes, hz, hall⟩ := hform
  obtain ⟨A, cA, rfl, -⟩ := id hS
  have H1 := hide (And.intro hb1 (And.intro hS hall)); clear hb1 hS hall hA hq2 hcl
  go_wp2_with fail
  refine (unhide HQ _).mono ?_
  rintro e w2 ⟨u2, z2, rfl, hA2, hb2⟩
  obtain ⟨v2, rfl, hS2, rfl⟩ := (unhide H1).2.2 _ _ _ _ hA2
  obtain ⟨B, cB, rfl, -⟩ := id hS2
  have hc : Blk w2 w1.heap.size 34 #[.string o, .int .i64 n, .string r, .slice A es.length cA] := (Blk.new w1 _ _).below hb2 (by simp)
  have hw2 : Below w.heap.size w w2 := ((unhide H1).1.alloc (unhide H1).1.size _).trans (hb2.mono (by have := (unhide H1).1.size; simp; omega))
  have hS1 : StrsAt w2 (.slice A es.length cA) es := ((unhide H1).2.1.alloc _).below hb2
  have H2 := hide (And.intro hw2 (And.intro hS1 (And.intro hS2 hc))); clear hw2 hS1 hS2 hA2 hb2
  have hc2 := hc.alloc (.cells #[.string o, .int .i64 n, .string r, .slice B es.length cB] 34)
  have k0 := hc2.cell 0; have k1 := hc2.cell 1; have k2 := hc2.cell 2; have k3 := hc2.cell 3
  simp only [List.getElem?_toArray, List.getElem?_cons_zero, List.getElem?_cons_succ] at k0 k1 k2 k3
  clear hc hc2
  go_wp2_with fail
  refine (alike_any o r n _ _ es _ hes ((unhide H2).2.1.alloc _) ((unhide H2).2.2.1.alloc _)).mono ?_
  rintro e w3 ⟨rfl, hb3⟩
  have hw3 : Below w.heap.size w w3 := ((unhide H2).1.alloc (unhide H2).1.size _).trans (hb3.mono (by have := (unhide H2).1.size; simp; omega))
  have H3 := hide hw3; clear hw3 hb3 k0 k1 k2 k3
  go_wp2_with fail
  refine (numl_any _ w3 hz).mono ?_
  rintro e w4 ⟨rfl, rfl⟩
  go_wp2_with fail
  go_ret
  exact ⟨rfl, unhide H3⟩
set_option maxRecDepth 100000 in
theorem noteParse_walk {H : Type} {enc : TypeId × Value → H} (W : World) (base : Nat) (v0 : Value) (d0 : DataW H) (p0 : List MemPlace) (o0 : Value.okWide Tryd.prog W .any base 9 v0) (h0 : DataW.Trod enc Tryd.prog W 0 (fun _ => true) true 9 v0 d0 p0) (l0 : ∀ x ∈ p0, x.block < W.heap.size) (hz : (DataW.weightsEach Tryd.prog [9] ([d0] : List (DataW H))).all (· ≤ reachBytes) = true) (hk : Rows.uptoBulkAll ([d0] : List (DataW H)) ≤ 1048576) (hL : laidMetH Tryd.prog Rows.noteParseUptoRow.laid W) (hsh : W.ShapedOpen Tryd.prog) :
    Calls Tryd.prog 6 #[v0] W fun e W' => e = .returned (.bool true) ∧ Below W.heap.size W W' := by
  have hT := utf8_of (laidMet_plain (by kernel_rfl) hL) (.tail _ (.head _)) (.head _)
  obtain ⟨s, rfl, rfl, -⟩ := Go.ChangeMaps.open_string Tryd.underlying9 o0 h0
  simp only [Rows.uptoBulkAll, Rows.uptoBulk, Array.length_toList] at hk
  have hsz : s.data.size = s.size := rfl
  exact lawParse_any s W (by omega) hT
end Go.Proofs.YtfhaoamlagnpjaaDoor

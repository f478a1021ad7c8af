/-
  THE WALK of the law WatchJudge.
-/
import Derived.Test.YtnkkpfomoodmjaaGreatDoorRows
import Derived.Test.YtnkkpfomoodmjaaGreatDoorGBase
import Derived.Test.YtnkkpfomoodmjaaGreatDoorSJudge
import Derived.Test.YtnkkpfomoodmjaaGreatDoorSOpenKey
import Derived.Test.YtnkkpfomoodmjaaGreatDoorSOpenEv
import Derived.Test.YtnkkpfomoodmjaaGreatDoorGTx
import Derived.Test.YtnkkpfomoodmjaaGreatDoorGLay
import Derived.Test.YtnkkpfomoodmjaaGreatDoorSMaxIs
set_option linter.unusedVariables false
set_option linter.unusedSimpArgs false
namespace Go.Proofs.YtnkkpfomoodmjaaGreatDoor
open Go.RowKit Go.Lib
set_option maxRecDepth 100000 in
set_option maxHeartbeats 1000000 in
theorem lawJudge_any (k : KeyR) (a b : ByteArray) (w : World) (ha : a.size ≤ 1048576) (hb : b.size ≤ 1048576) (hk1 : k.nm.size ≤ 1048576) (hk2 : k.sc.size ≤ 1048576) (hT : LT w) :
    Calls Tryz.prog 3 #[.agg #[.string k.nm, .string k.sc], .agg #[.string a, .string b]] w fun e W' => e = .returned (.bool true) ∧ Below w.heap.size w W' := by
  have hj := fun W h => judge_any k a b W ha hb hk1 hk2 h
  have hr := fun W h => rjudge_any k a b W ha hb hk1 hk2 h
  have hK1 := (Blk.new w 23 #[.string k.nm, .string k.sc]).alloc (.cells #[.string a, .string b] 25)
  have hE1 := Blk.new (w.alloc (.cells #[.string k.nm, .string k.sc] 23)) 25 #[.string a, .string b]
  have hz1 : (w.alloc (.cells #[.string k.nm, .string k.sc] 23)).heap.size = w.heap.size + 1 := by simp
  rw [hz1] at hE1
  have hb0 : Below w.heap.size w ((w.alloc (.cells #[.string k.nm, .string k.sc] 23)).alloc (.cells #[.string a, .string b] 25)) := ((Below.refl _ _).alloc (Nat.le_refl _) _).alloc (by simp) _
  have hT0 := hT.next hb0
  have H0 := hide (And.intro hb0 (And.intro hK1 (And.intro hE1 hT0)))
  have HJ := hide hj; have HR := hide hr; clear hj hr hT hb0 hK1 hE1 hT0 hz1
  go_enter Tryz.func3, Tryz.ntmps3
  go_wp2_with fail
  generalize ((w.alloc (.cells #[.string k.nm, .string k.sc] 23)).alloc (.cells #[.string a, .string b] 25)) = w0 at *
  generalize hg0 : w.heap.size = g0 at *
  refine ((unhide HJ) _ (unhide H0).2.2.2).mono ?_
  rintro e w1 ⟨z, rfl, hz, hb1⟩
  have hK2 := (unhide H0).2.1.below hb1 (unhide H0).2.1.lt
  have hE2 := (unhide H0).2.2.1.below hb1 (unhide H0).2.2.1.lt
  have k0 := hK2.cell 0; have k1 := hK2.cell 1; have e0 := hE2.cell 0; have e1 := hE2.cell 1
  simp only [List.getElem?_toArray, List.getElem?_cons_zero, List.getElem?_cons_succ] at k0 k1 e0 e1
  have hw1 : Below g0 w w1 := (unhide H0).1.trans (hb1.mono (by have := (unhide H0).1.size; omega))
  have H1 := hide (And.intro hw1 (And.intro hz ((unhide H0).2.2.2.next hb1))); clear hb1 HJ hz H0 hK2 hE2 hw1
  go_wp2_with fail
  refine ((unhide HR) _ (unhide H1).2.2).mono ?_
  rintro e w2 ⟨z2, rfl, hz2, hb2⟩
  have hzz := (unhide H1).2.1.same hz2
  subst hzz
  have HB := hide ((unhide H1).1.trans (hb2.mono (by have := (unhide H1).1.size; omega))); clear hb2 HR H1 hz2 k0 k1 e0 e1
  go_wp2_with fail
  go_ret
  exact ⟨rfl, by rw [hg0]; exact unhide HB⟩
set_option maxRecDepth 100000 in
theorem watchJudge_walk {H : Type} {enc : TypeId × Value → H} (W : World) (base : Nat) (v0 : Value) (d0 : DataW H) (p0 : List MemPlace) (v1 : Value) (d1 : DataW H) (p1 : List MemPlace) (o0 : Value.okWide Tryz.prog W .any base 23 v0) (h0 : DataW.Trod enc Tryz.prog W 0 (fun _ => true) true 23 v0 d0 p0) (l0 : ∀ x ∈ p0, x.block < W.heap.size) (o1 : Value.okWide Tryz.prog W .any base 25 v1) (h1 : DataW.Trod enc Tryz.prog W 0 (fun _ => true) true 25 v1 d1 p1) (l1 : ∀ x ∈ p1, x.block < W.heap.size) (hz : (DataW.weightsEach Tryz.prog [23, 25] ([d0, d1] : List (DataW H))).all (· ≤ reachBytes) = true) (hk : Rows.uptoBulkAll ([d0, d1] : List (DataW H)) ≤ 1048576) (hL : laidMetH Tryz.prog Rows.watchJudgeUptoRow.laid W) (hsh : W.ShapedOpen Tryz.prog) :
    Calls Tryz.prog 3 #[v0, v1] W fun e W' => e = .returned (.bool true) ∧ Below W.heap.size W W' := by
  have hT := utf8_of (laidMet_plain (by kernel_rfl) hL) (.tail _ (.tail _ (.tail _ (.tail _ (.tail _ (.head _)))))) (.tail _ (.tail _ (.tail _ (.tail _ (.head _)))))
  obtain ⟨h1', h2', h3', h4'⟩ := sha_laid (laid := Rows.watchJudgeUptoRow.laid) (by kernel_rfl) hL (.tail _ (.tail _ (.head _))) (.tail _ (.tail _ (.tail _ (.head _)))) (.head _) (.tail _ (.head _))
  obtain ⟨kn, ksc, rfl, hw1, -⟩ := open_key o0 h0
  obtain ⟨a, b, rfl, hw2, -⟩ := open_ev o1 h1
  simp only [Rows.uptoBulkAll] at hk
  exact lawJudge_any ⟨kn, ksc⟩ a b W (by omega) (by omega) (by simp only; omega) (by simp only; omega) ⟨⟨h1', h2'⟩, ⟨h3', h4'⟩, hT, max_is hsh⟩
end Go.Proofs.YtnkkpfomoodmjaaGreatDoor

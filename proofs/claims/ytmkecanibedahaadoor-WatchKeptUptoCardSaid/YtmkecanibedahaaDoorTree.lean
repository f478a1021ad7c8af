/-
  CONTRACTS of package tree and of the document's answer for it: the hashes of no leaves, of a leaf, of a node.
-/
import Derived.Test.YtmkecanibedahaaDoorRows
import Derived.Test.YtmkecanibedahaaDoorWd
import Derived.Test.YtmkecanibedahaaDoorShelf
import Derived.Test.YtmkecanibedahaaDoorCut
import Derived.Test.YtmkecanibedahaaDoorMthP
set_option linter.unusedVariables false
set_option linter.unusedSimpArgs false
namespace Go.Proofs.YtmkecanibedahaaDoor
open Go.RowKit Go.Lib
set_option maxRecDepth 100000 in
theorem hashed_any (g c : Nat) (xs : List ByteArray) (s : ByteArray) (z : Int) (w : World) (hs : s.size ≤ 140737488355328) (hj : (Lib.join (xs.map (·.data.toList)) []) = s.data.toList) (hg : g < w.heap.size) (hc : xs.length ≤ c) (hn : xs.length ≤ 1000)
    (hcells : ∀ (j : Nat) x, xs[j]? = some x → w.cell? ⟨g, 0 + j, none⟩ = some (.string x)) (hT : PTab w) :
    Calls Tryd.prog 26 #[.int .i64 z, .slice (some ⟨g, 0, none⟩) xs.length c] w fun e w' => e = .returned (.string (cutS s z)) ∧ Below w.heap.size w w' := by
  have hjn := Tryd.strings_Join g 0 c xs ⟨#[]⟩ w hcells hg (by omega) hc (by
    show (Lib.join (xs.map (·.data.toList)) []).length ≤ _
    rw [hj, Array.length_toList]
    exact hs)
  have hjs : (⟨(Lib.join (xs.map (·.data.toList)) (⟨#[]⟩ : ByteArray).data.toList).toArray⟩ : ByteArray) = s := by
    apply ByteArray.ext
    show (Lib.join (xs.map (·.data.toList)) []).toArray = _
    rw [hj]
  rw [hjs] at hjn
  have hct := fun W (h : PTab W) => cut_any s z W (by omega) h
  have HJ := hide hjn; have HC := hide hct; have HT := hide hT; clear hjn hct hT hcells hj hjs
  go_enter Tryd.func26, Tryd.ntmps26
  go_wp2_with fail
  refine (unhide HJ).mono ?_
  rintro e w1 ⟨rfl, hb1⟩
  have hc1 := unhide HC w1 ((unhide HT).next hb1)
  have HC1 := hide hc1; have HB := hide hb1; clear hc1 hb1
  go_wp2_with fail
  refine (unhide HC1).mono ?_
  rintro e w2 ⟨rfl, hb2⟩
  have hb2' := (unhide HB).trans (hb2.mono (unhide HB).size)
  have H2 := hide hb2'; clear hb2 hb2'
  go_wp2_with fail
  go_ret
  exact ⟨rfl, unhide H2⟩
set_option maxRecDepth 100000 in
theorem hashed_none (z : Int) (w : World) (hT : PTab w) :
    Calls Tryd.prog 26 #[.int .i64 z, .slice none 0 0] w fun e w' => e = .returned (.string (emptyH z)) ∧ Below w.heap.size w w' := by
  have hjn := Tryd.strings_Join_none none 0 ⟨#[]⟩ w
  have hct := cut_any ⟨#[]⟩ z w (by show 0 ≤ _; omega) hT
  have hes : Hid (emptyH z = cutS ⟨#[]⟩ z) := rfl
  rw [← hes.out] at hct
  have HJ := hide hjn; have HC := hide hct; clear hjn hct hT
  go_enter Tryd.func26, Tryd.ntmps26
  go_wp2_with fail
  refine (unhide HJ).mono ?_
  rintro e w1 ⟨rfl, rfl⟩
  go_wp2_with fail
  refine (unhide HC).mono ?_
  rintro e w2 ⟨rfl, hb2⟩
  go_wp2_with fail
  go_ret
  exact ⟨rfl, hb2⟩
theorem empty_any (z : Int) (w : World) (hT : PTab w) :
    Calls Tryd.prog 12 #[.int .i64 z] w fun e w' => e = .returned (.string (emptyH z)) ∧ Below w.heap.size w w' := by
  have hh := hashed_none z w hT
  have HH := hide hh; clear hh hT
  go_enter Tryd.func12, Tryd.ntmps12
  go_wp2_with fail
  refine (unhide HH).mono ?_
  rintro e w2 ⟨rfl, hb2⟩
  go_wp2_with fail
  go_ret
  exact ⟨rfl, hb2⟩
theorem leaf_any (z : Int) (d : ByteArray) (w : World) (hd : d.size ≤ 1099511627776) (hT : PTab w) :
    Calls Tryd.prog 13 #[.int .i64 z, .string d] w fun e w' => e = .returned (.string (leafH z d)) ∧ Below w.heap.size w w' := by
  have hb0 : Below w.heap.size w (w.alloc (.cells #[.string ⟨#[0]⟩, .string d] 9)) := (Below.refl _ _).alloc (Nat.le_refl _) _
  have hh := hashed_any w.heap.size 2 [⟨#[0]⟩, d] (⟨#[0]⟩ ++ d) z (w.alloc (.cells #[.string ⟨#[0]⟩, .string d] 9)) (by rw [ByteArray.size_append, show (⟨#[0]⟩ : ByteArray).size = 1 from rfl]; omega) (by rw [ByteArray.data_append, Array.toList_append]; simp [Lib.join]) (by simp) (Nat.le_refl _) (by show 2 ≤ 1000; omega)
    (fun j x hx => by
      rw [Nat.zero_add, (Blk.new w 9 #[.string ⟨#[0]⟩, .string d]).cell j]
      match j, hx with
      | 0, hx => simp at hx; subst hx; rfl
      | 1, hx => simp at hx; subst hx; rfl) (hT.alloc _)
  have HH := hide hh; have HB := hide hb0; clear hh hb0 hT
  go_enter Tryd.func13, Tryd.ntmps13
  go_wp2_with fail
  refine (unhide HH).mono ?_
  rintro e w2 ⟨rfl, hb2⟩
  have hb2' := (unhide HB).trans (hb2.mono (unhide HB).size)
  have H2 := hide hb2'; clear hb2 hb2'
  go_wp2_with fail
  go_ret
  exact ⟨rfl, unhide H2⟩
theorem node_any (z : Int) (l r : ByteArray) (w : World) (hl : l.size ≤ 1099511627776) (hr : r.size ≤ 1099511627776) (hT : PTab w) :
    Calls Tryd.prog 15 #[.int .i64 z, .string l, .string r] w fun e w' => e = .returned (.string (nodeH z l r)) ∧ Below w.heap.size w w' := by
  have hb0 : Below w.heap.size w (w.alloc (.cells #[.string ⟨#[1]⟩, .string l, .string r] 9)) := (Below.refl _ _).alloc (Nat.le_refl _) _
  have hh := hashed_any w.heap.size 3 [⟨#[1]⟩, l, r] (⟨#[1]⟩ ++ l ++ r) z (w.alloc (.cells #[.string ⟨#[1]⟩, .string l, .string r] 9)) (by rw [ByteArray.size_append, ByteArray.size_append, show (⟨#[1]⟩ : ByteArray).size = 1 from rfl]; omega) (by rw [ByteArray.data_append, ByteArray.data_append, Array.toList_append, Array.toList_append]; simp [Lib.join]) (by simp) (Nat.le_refl _) (by show 3 ≤ 1000; omega)
    (fun j x hx => by
      rw [Nat.zero_add, (Blk.new w 9 #[.string ⟨#[1]⟩, .string l, .string r]).cell j]
      match j, hx with
      | 0, hx => simp at hx; subst hx; rfl
      | 1, hx => simp at hx; subst hx; rfl
      | 2, hx => simp at hx; subst hx; rfl) (hT.alloc _)
  have HH := hide hh; have HB := hide hb0; clear hh hb0 hT
  go_enter Tryd.func15, Tryd.ntmps15
  go_wp2_with fail
  refine (unhide HH).mono ?_
  rintro e w2 ⟨rfl, hb2⟩
  have hb2' := (unhide HB).trans (hb2.mono (unhide HB).size)
  have H2 := hide hb2'; clear hb2 hb2'
  go_wp2_with fail
  go_ret
  exact ⟨rfl, unhide H2⟩
theorem rempty_any (z : Int) (w : World) (hT : RTab w) :
    Calls Tryd.prog 20 #[.int .i64 z] w fun e w' => e = .returned (.string (emptyH z)) ∧ Below w.heap.size w w' := by
  have hh := rcut_any ⟨#[]⟩ z w (by show 0 ≤ _; omega) hT
  have hes : Hid (emptyH z = cutS ⟨#[]⟩ z) := rfl
  rw [← hes.out] at hh
  have HH := hide hh; clear hh hT
  go_enter Tryd.func20, Tryd.ntmps20
  go_wp2_with fail
  refine (unhide HH).mono ?_
  rintro e w2 ⟨rfl, hb2⟩
  go_wp2_with fail
  go_ret
  exact ⟨rfl, hb2⟩
theorem rleaf_any (z : Int) (d : ByteArray) (w : World) (hd : d.size ≤ 1099511627776) (hT : RTab w) :
    Calls Tryd.prog 21 #[.int .i64 z, .string d] w fun e w' => e = .returned (.string (leafH z d)) ∧ Below w.heap.size w w' := by
  have e1 : (⟨#[0]⟩ : ByteArray).size = 1 := rfl
  have x1 : ¬ 9223372036854775807 < 1 + d.size := by omega
  have hh := rcut_any (⟨#[0]⟩ ++ d) z w (by rw [ByteArray.size_append, e1]; omega) hT
  have hes : Hid (leafH z d = cutS (⟨#[0]⟩ ++ d) z) := rfl
  rw [← hes.out] at hh
  have HH := hide hh; clear hh hT
  go_enter Tryd.func21, Tryd.ntmps21
  go_wp2_with fail
  refine (unhide HH).mono ?_
  rintro e w2 ⟨rfl, hb2⟩
  go_wp2_with fail
  go_ret
  exact ⟨rfl, hb2⟩
theorem rnode_any (z : Int) (l r : ByteArray) (w : World) (hl : l.size ≤ 1099511627776) (hr : r.size ≤ 1099511627776) (hT : RTab w) :
    Calls Tryd.prog 23 #[.int .i64 z, .string l, .string r] w fun e w' => e = .returned (.string (nodeH z l r)) ∧ Below w.heap.size w w' := by
  have e1 : (⟨#[1]⟩ : ByteArray).size = 1 := rfl
  have x1 : ¬ 9223372036854775807 < 1 + l.size := by omega
  have x2 : ¬ 9223372036854775807 < 1 + l.size + r.size := by omega
  have hh := rcut_any (⟨#[1]⟩ ++ l ++ r) z w (by rw [ByteArray.size_append, ByteArray.size_append, e1]; omega) hT
  have hes : Hid (nodeH z l r = cutS (⟨#[1]⟩ ++ l ++ r) z) := rfl
  rw [← hes.out] at hh
  have HH := hide hh; clear hh hT
  go_enter Tryd.func23, Tryd.ntmps23
  go_wp2_with fail
  refine (unhide HH).mono ?_
  rintro e w2 ⟨rfl, hb2⟩
  go_wp2_with fail
  go_ret
  exact ⟨rfl, hb2⟩
end Go.Proofs.YtmkecanibedahaaDoor

/-
  WORDS for reading a script: the lines one by one; what stands while steps are gathered.
-/
import Derived.Test.YtaomecinemmdgaaRows
import Derived.Test.YtaomecinemmdgaaGBase
import Derived.Test.YtaomecinemmdgaaSStepP
import Derived.Test.YtaomecinemmdgaaSRStep
import Derived.Test.YtaomecinemmdgaaSShelf
set_option linter.unusedVariables false
set_option linter.unusedSimpArgs false
namespace Go.Proofs.Ytaomecinemmdgaa
open Go.RowKit Go.Lib
theorem linL_nil : linL [] = [] := by simp [linL, splL]
theorem linL_cons {l a b : List UInt8} (h : splL 10 l = a :: splL 10 b) : linL l = a :: linL b := by
  have hne := splL_ne 10 b
  have hg : (splL 10 l).getLast (splL_ne 10 l) = (splL 10 b).getLast hne := by
    simp only [h]
    rw [List.getLast_cons hne]
  unfold linL
  rw [hg]
  split
  · rw [h, List.dropLast_cons_of_ne_nil hne]
  · exact h
theorem linL_cut {l : List UInt8} (hl : l ≠ []) : linL l = (Lib.cut l [10]).1 :: linL (Lib.cut l [10]).2.1 := by
  unfold Lib.cut
  rw [Lib.index_one]
  by_cases h : 0 ≤ Lib.indexByte l 10
  · rw [if_pos h]
    obtain ⟨o, ho⟩ : ∃ o : Nat, Lib.indexByte l 10 = o := ⟨(Lib.indexByte l 10).toNat, by omega⟩
    obtain ⟨h1, h2⟩ := Lib.indexByte_some ho
    rw [ho]
    simp only [Int.toNat_natCast, List.length_singleton]
    obtain ⟨hlt, he⟩ := List.getElem?_eq_some_iff.1 h1
    refine linL_cons ?_
    have e : l = l.take o ++ 10 :: l.drop (o + 1) := by
      conv => lhs; rw [← List.take_append_drop o l, List.drop_eq_getElem_cons hlt, he]
    conv => lhs; rw [e]
    refine splL_at 10 _ _ ?_
    intro hm
    obtain ⟨j, hj, hx⟩ := List.mem_iff_getElem.1 hm
    rw [List.getElem_take] at hx
    rw [List.length_take] at hj
    exact h2 j (by omega) (by rw [List.getElem?_eq_getElem (by omega), hx])
  · rw [if_neg h]
    have hn : Lib.indexByte l 10 = -1 := by have := Lib.indexByte_ge l 10; omega
    have h1 := Lib.indexByte_none hn
    have h2 : splL 10 l = [l] := splL_free 10 l (fun hm => by
      obtain ⟨j, hj, hx⟩ := List.mem_iff_getElem.1 hm
      exact h1 j (by rw [List.getElem?_eq_getElem hj, hx]))
    simp only [linL_nil]
    unfold linL
    simp only [h2, List.getLast_singleton]
    rw [if_neg hl]
theorem cut_len (l : List UInt8) : (Lib.cut l [10]).1.length ≤ l.length ∧ (l ≠ [] → (Lib.cut l [10]).2.1.length < l.length) := by
  unfold Lib.cut
  split
  · simp only [List.length_take, List.length_drop, List.length_singleton]
    exact ⟨by omega, fun h => by have := List.length_pos_iff.2 h; omega⟩
  · exact ⟨Nat.le_refl _, fun h => List.length_pos_iff.2 h⟩
theorem stepO_ne {ws : List ByteArray} {c : Nat} (h : stepO ws = .inl c) : c = 300 ∨ c = 42 := by
  unfold stepO at h
  simp only at h
  split at h
  · injection h with h; exact .inl h.symm
  · split at h
    · injection h with h; exact .inl h.symm
    · split at h
      · injection h with h; exact .inr h.symm
      · cases h
theorem unD_len : ∀ (n : Nat) (l : List UInt8), l.length ≤ n → (unD l).length ≤ l.length
  | _, [], _ => by simp [unD]
  | _, [c], _ => by simp [unD]
  | _, [c, a], _ => by simp [unD]
  | 0, c :: a :: b :: r, hn => by simp at hn
  | n + 1, c :: a :: b :: r, hn => by
    simp only [List.length_cons] at hn
    rw [unD]
    split
    · have := unD_len n r (by omega)
      simp only [List.length_cons]; omega
    · have := unD_len n (a :: b :: r) (by simp only [List.length_cons]; omega)
      simp only [List.length_cons] at this ⊢; omega
theorem unE_size {x t : ByteArray} (h : unE x = some t) : t.size ≤ x.size := by
  unfold unE at h
  split at h
  · injection h with h; subst h; exact Nat.zero_le _
  · split at h
    · injection h with h
      subst h
      unfold unDS
      show (unD x.data.toList).toArray.size ≤ _
      rw [List.size_toArray]
      have h1 := unD_len _ x.data.toList (Nat.le_refl _)
      have h2 : x.data.toList.length = x.size := Array.length_toList
      omega
    · cases h
theorem wlO_size : ∀ {l ts : List ByteArray} {B : Nat}, wlO l = some ts → (∀ x ∈ l, x.size ≤ B) → ∀ t ∈ ts, t.size ≤ B
  | [], ts, B, h, _, t, ht => by simp [wlO] at h; subst h; simp at ht
  | x :: r, ts, B, h, hB, t, ht => by
    unfold wlO at h
    split at h
    · cases h
    · rename_i u hu
      obtain ⟨q, hq, rfl⟩ := Option.map_eq_some_iff.1 h
      rcases List.mem_cons.1 ht with rfl | ht
      · exact Nat.le_trans (unE_size hu) (hB x (List.mem_cons_self ..))
      · exact wlO_size hq (fun y hy => hB y (List.mem_cons_of_mem _ hy)) t ht
theorem wdsL_size {s : ByteArray} {ts : List ByteArray} (h : wdsL s = some ts) : (∀ t ∈ ts, t.size ≤ s.size) ∧ ts.length ≤ s.size + 1 := by
  have hll : s.data.toList.length = s.size := Array.length_toList
  unfold wdsL at h
  split at h
  · injection h with h; subst h; exact ⟨fun t ht => absurd ht (by simp), by simp⟩
  · refine ⟨wlO_size h (fun x hx => ?_), ?_⟩
    · obtain ⟨y, hy, rfl⟩ := List.mem_map.1 hx
      have := splL_mem 32 _ y hy
      show y.toArray.size ≤ _
      rw [List.size_toArray]; omega
    · rw [wlO_len h, List.length_map]
      have := splL_length 32 s.data.toList
      omega
/-- A script's line is passed over. -/
def skipL (l : List UInt8) : Bool := decide (l = [] ∨ l.head? = some 35)
theorem decF_skip {l : List UInt8} {r : List (List UInt8)} {n : Nat} {acc : List StepR} (h : l = [] ∨ l.head? = some 35) : decF (l :: r) n acc = decF r (n + 1) acc := by rw [decF, if_pos h]
theorem decF_bad {l : List UInt8} {r : List (List UInt8)} {n : Nat} {acc : List StepR} (h : ¬ (l = [] ∨ l.head? = some 35)) (hw : wdsL (bsL l) = none) : decF (l :: r) n acc = ([], n, 44) := by rw [decF, if_neg h, hw]
theorem decF_no {l : List UInt8} {r : List (List UInt8)} {n c : Nat} {acc : List StepR} {ws : List ByteArray} (h : ¬ (l = [] ∨ l.head? = some 35)) (hw : wdsL (bsL l) = some ws) (hs : stepO ws = .inl c) : decF (l :: r) n acc = ([], n, c) := by rw [decF, if_neg h, hw]; simp only [hs]
theorem decF_yes {l : List UInt8} {r : List (List UInt8)} {n : Nat} {acc : List StepR} {ws : List ByteArray} {s : StepR} (h : ¬ (l = [] ∨ l.head? = some 35)) (hw : wdsL (bsL l) = some ws) (hs : stepO ws = .inr s) : decF (l :: r) n acc = decF r (n + 1) (acc ++ [s]) := by rw [decF, if_neg h, hw]; simp only [hs]
theorem TwS.call {w W W' : World} {v : Value} {es : List TE} (h : TwS w W v es) (hb : Below W.heap.size W W') : TwS w W' v es :=
  ⟨row_low h.row (fun q hq => (World.ownsRow.lt h.row q hq).2) hb, fun x hx => ⟨row_low (h.nest x hx).1 (fun q hq => (World.ownsRow.lt (h.nest x hx).1 q hq).2) hb, row_low (h.nest x hx).2 (fun q hq => (World.ownsRow.lt (h.nest x hx).2 q hq).2) hb⟩, h.b.trans (hb.mono h.b.size)⟩
theorem TwS.app {w W W' : World} {v v' : Value} {es : List TE} {y : TE} {ob : Obj} (h : TwS w W v es) (hI : OwnI W w.heap.size y.vn y.ns) (hT : OwnT W w.heap.size y.vs y.ss) (hO : OwnS W' w.heap.size v' (es ++ [y])) (hg : (W.alloc ob).grownBy W' v.ownBlock) : TwS w W' v' (es ++ [y]) :=
  have hr := World.ownsRow.alloc h.row ob
  ⟨hO, fun x hx => by
    rcases List.mem_append.1 hx with hx | hx
    · have hn := h.nest x hx
      exact ⟨World.ownsRow.kept (World.ownsRow.alloc hn.1 ob) hg (row_ne (World.ownsRow.alloc hn.1 ob) hr (by decide)), World.ownsRow.kept (World.ownsRow.alloc hn.2 ob) hg (row_ne (World.ownsRow.alloc hn.2 ob) hr (by decide))⟩
    · rw [List.mem_singleton] at hx
      subst hx
      exact ⟨World.ownsRow.kept (World.ownsRow.alloc hI ob) hg (row_ne (World.ownsRow.alloc hI ob) hr (by decide)), World.ownsRow.kept (World.ownsRow.alloc hT ob) hg (row_ne (World.ownsRow.alloc hT ob) hr (by decide))⟩,
   (h.b.alloc h.b.size ob).grown hg (by have := h.b.size; simp; omega) (fun k hk => (World.ownsRow.lt h.row k hk).1)⟩
theorem TwS.rebase {w w1 W : World} {v : Value} {es : List TE} (h : TwS w1 W v es) (hb : Below w.heap.size w w1) : TwS w W v es :=
  ⟨row_mono h.row hb.size, fun x hx => ⟨row_mono (h.nest x hx).1 hb.size, row_mono (h.nest x hx).2 hb.size⟩, hb.trans (h.b.mono hb.size)⟩
/-- What a script's reader answers. -/
def DecR (w w' : World) (t : ByteArray) (e : Ending) : Prop :=
  ∃ v es, e = .returned (.tuple #[v, .int .i64 ((decO t).2.1 : Int), .int .i64 ((decO t).2.2 : Int)]) ∧ es.map TE.step = (decO t).1 ∧ TwS w w' v es
end Go.Proofs.Ytaomecinemmdgaa

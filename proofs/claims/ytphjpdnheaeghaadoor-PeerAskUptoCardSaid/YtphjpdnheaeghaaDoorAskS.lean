/-
  PLAIN LAW of PeerAsk: a text parted by strings.Cut and strings.Split.
-/
import Derived.Test.YtphjpdnheaeghaaDoorRows
import Derived.Test.YtphjpdnheaeghaaDoorWd
import Derived.Test.YtphjpdnheaeghaaDoorAskQ
import Derived.Lib.SplitLaws
import Derived.Lib.Strings
set_option linter.unusedVariables false
set_option linter.unusedSimpArgs false
namespace Go.Proofs.YtphjpdnheaeghaaDoor
open Go.RowKit Go.Lib
theorem idx1 : ∀ l : List UInt8, (index l [10] = -1 ∧ (10 : UInt8) ∉ l) ∨ ∃ a c, index l [10] = (a.length : Int) ∧ l = a ++ 10 :: c ∧ (10 : UInt8) ∉ a
  | [] => .inl ⟨rfl, by simp⟩
  | x :: l => by
    by_cases hx : x = 10
    · subst hx
      exact .inr ⟨[], l, by simp [index, List.isPrefixOf], rfl, by simp⟩
    · have hp : ([10] : List UInt8).isPrefixOf (x :: l) = false := by simp [List.isPrefixOf, Ne.symm hx]
      rcases idx1 l with ⟨h1, h2⟩ | ⟨a, c, h1, h2, h3⟩
      · refine .inl ⟨by rw [index, hp, h1]; rfl, fun hm => ?_⟩
        rcases List.mem_cons.1 hm with h | h
        · exact hx h.symm
        · exact h2 h
      · refine .inr ⟨x :: a, c, ?_, by rw [h2]; rfl, fun hm => ?_⟩
        · have : ((a.length : Int) == -1) = false := by rw [beq_eq_false_iff_ne]; omega
          rw [index, hp, h1]; simp [this]
        · rcases List.mem_cons.1 hm with h | h
          · exact hx h.symm
          · exact h3 h
theorem split1 : ∀ (k : Nat) (l : List UInt8), count l [10] = k → splitK [10] 0 k l = splL 10 l
  | 0, l, h => by
    rcases idx1 l with ⟨h1, h2⟩ | ⟨a, c, h1, h2, h3⟩
    · rw [splL_free 10 l h2]; rfl
    · rw [count_hit (by simp) h1] at h; omega
  | k + 1, l, h => by
    rcases idx1 l with ⟨h1, h2⟩ | ⟨a, c, h1, h2, h3⟩
    · rw [count_miss h1] at h; omega
    · have hd : l.drop (a.length + 1) = c := by rw [h2]; simp
      have ht : l.take a.length = a := by rw [h2]; simp
      have hc := count_hit (sub := [10]) (by simp) h1
      simp only [List.length_singleton] at hc
      rw [hd] at hc
      have ih := split1 k c (by omega)
      have hm : ¬ (index l [10] == -1) = true := fun e => by have := beq_iff_eq.1 e; omega
      rw [splitK, if_neg hm, h1, show ((a.length : Int)).toNat = a.length from by omega, List.length_singleton, Nat.add_zero, hd, ht, ih]
      rw [h2, splL_at 10 a c h3]
theorem idx2 : ∀ l : List UInt8, (index l [10, 10] = -1 ∧ cut2 l = none) ∨ ∃ a c, index l [10, 10] = (a.length : Int) ∧ l = a ++ 10 :: 10 :: c ∧ cut2 l = some (a, c)
  | [] => .inl ⟨rfl, rfl⟩
  | [x] => .inl ⟨by simp [index, List.isPrefixOf], rfl⟩
  | x :: y :: l => by
    by_cases hx : x = 10 ∧ y = 10
    · obtain ⟨rfl, rfl⟩ := hx
      exact .inr ⟨[], l, by simp [index, List.isPrefixOf], rfl, by simp [cut2]⟩
    · have hp : ([10, 10] : List UInt8).isPrefixOf (x :: y :: l) = false := by
        simp only [List.isPrefixOf, Bool.and_true, Bool.and_eq_false_iff, beq_eq_false_iff_ne]
        by_cases h1 : x = 10
        · exact .inr (fun h2 => hx ⟨h1, h2.symm⟩)
        · exact .inl (fun h2 => h1 h2.symm)
      rcases idx2 (y :: l) with ⟨h1, h2⟩ | ⟨a, c, h1, h2, h3⟩
      · exact .inl ⟨by rw [index, hp, h1]; rfl, by rw [cut2, if_neg hx, h2]; rfl⟩
      · refine .inr ⟨x :: a, c, ?_, by rw [h2]; rfl, by rw [cut2, if_neg hx, h3]; rfl⟩
        have : ((a.length : Int) == -1) = false := by rw [beq_eq_false_iff_ne]; omega
        rw [index, hp, h1]; simp [this]
theorem cut_cases (l : List UInt8) : (Lib.cut l [10, 10] = (l, [], false) ∧ cut2 l = none) ∨ ∃ a c, Lib.cut l [10, 10] = (a, c, true) ∧ l = a ++ 10 :: 10 :: c ∧ cut2 l = some (a, c) := by
  rcases idx2 l with ⟨h1, h2⟩ | ⟨a, c, h1, h2, h3⟩
  · refine .inl ⟨?_, h2⟩
    unfold Lib.cut
    rw [if_neg (by omega)]
  · refine .inr ⟨a, c, ?_, h2, h3⟩
    unfold Lib.cut
    rw [if_pos (by omega), h1, show ((a.length : Int)).toNat = a.length from by omega]
    rw [h2]
    simp
/-- The lines of a text. -/
def nlB (a : ByteArray) : List ByteArray := splitB ⟨#[10]⟩ 0 (countB a ⟨#[10]⟩) a
theorem nlB_list (a : ByteArray) : (nlB a).map (·.data.toList) = splL 10 a.data.toList := by
  unfold nlB
  rw [splitB_data]
  exact split1 _ _ rfl
theorem nlB_length (a : ByteArray) : (nlB a).length = countB a ⟨#[10]⟩ + 1 := splitB_all _ (by decide) 0 _ a rfl
theorem nlB_size (a : ByteArray) : ∀ x ∈ nlB a, x.size ≤ a.size := by
  intro x hx
  have h1 : x.data.toList ∈ splL 10 a.data.toList := by rw [← nlB_list]; exact List.mem_map.2 ⟨x, hx, rfl⟩
  have h2 := splL_mem 10 _ _ h1
  rw [Array.length_toList, Array.length_toList] at h2
  exact h2
theorem nlB_len (a : ByteArray) : (nlB a).length ≤ a.size + 1 := by
  have h1 := congrArg List.length (nlB_list a)
  rw [List.length_map] at h1
  have h2 := splL_length 10 a.data.toList
  rw [Array.length_toList] at h2
  rw [h1]; exact h2
/-- What every request with this text says of its lines and its note. -/
def AskP (b : ByteArray) (ls : List ByteArray) (nt : ByteArray) : Prop := ∀ r, AskOk r → askB r = b → ls = (⟨#[111, 108, 100, 32]⟩ ++ decS r.old) :: r.pf.map b64S ∧ r.nt = nt
theorem ask_uncut {b : ByteArray} (h : cut2 b.data.toList = none) : ∀ r, AskOk r → askB r ≠ b := by
  intro r hr e
  have := ask_cut hr
  rw [e, h] at this
  cases this
theorem map_list_inj : ∀ {a b : List ByteArray}, a.map (·.data.toList) = b.map (·.data.toList) → a = b
  | [], [], _ => rfl
  | [], _ :: _, h => by simp at h
  | _ :: _, [], h => by simp at h
  | x :: a, y :: b, h => by
    simp only [List.map_cons, List.cons.injEq] at h
    rw [bs_of h.1, map_list_inj h.2]
theorem ask_P {b : ByteArray} {a c : List UInt8} (h : cut2 b.data.toList = some (a, c)) : AskP b (nlB ⟨a.toArray⟩) ⟨c.toArray⟩ := by
  intro r hr e
  have h1 := ask_cut hr
  rw [e, h] at h1
  simp only [Option.some.injEq, Prod.mk.injEq] at h1
  refine ⟨map_list_inj ?_, bs_of ?_⟩
  · rw [nlB_list]
    show splL 10 a = _
    rw [h1.1, head_lines]
    simp [ByteArray.data_append, List.map_map, Function.comp_def]
  · exact h1.2.symm
/-- Behind the first line. -/
def AskK (b : ByteArray) (old : Int) (acc : List ByteArray) (k : Nat) : Prop := ∀ r, AskOk r → askB r = b → r.old = old ∧ acc = r.pf.take k
theorem ask_nopre {b nt l : ByteArray} {ls : List ByteArray} (h : AskP b (l :: ls) nt) (hp : hasPrefix l.data.toList [111, 108, 100, 32] = false) : ∀ r, AskOk r → askB r ≠ b := by
  intro r hr e
  obtain ⟨h1, -⟩ := h r hr e
  injection h1 with h1
  rw [h1] at hp
  revert hp
  simp [hasPrefix, ByteArray.data_append, List.isPrefixOf]
theorem ask_pre {b nt l : ByteArray} {ls : List ByteArray} (h : AskP b (l :: ls) nt) : ∀ r, AskOk r → askB r = b → (⟨(trimPrefix l.data.toList [111, 108, 100, 32]).toArray⟩ : ByteArray) = decS r.old := by
  intro r hr e
  obtain ⟨h1, -⟩ := h r hr e
  injection h1 with h1
  apply bs_of
  rw [h1]
  simp [trimPrefix, hasPrefix, ByteArray.data_append, List.isPrefixOf]
theorem ask_noold {b nt l : ByteArray} {ls : List ByteArray} (h : AskP b (l :: ls) nt) (hu : undV ⟨(trimPrefix l.data.toList [111, 108, 100, 32]).toArray⟩ = none) : ∀ r, AskOk r → askB r ≠ b := by
  intro r hr e
  rw [ask_pre h r hr e, undV_of (by have := hr.1; omega) (by have := hr.2.1; omega) rfl] at hu
  cases hu
theorem ask_K0 {b nt l : ByteArray} {ls : List ByteArray} {z : Int} (h : AskP b (l :: ls) nt) (hu : undV ⟨(trimPrefix l.data.toList [111, 108, 100, 32]).toArray⟩ = some z) : AskK b z [] 0 := by
  intro r hr e
  rw [ask_pre h r hr e, undV_of (by have := hr.1; omega) (by have := hr.2.1; omega) rfl] at hu
  injection hu with hu
  exact ⟨hu, rfl⟩
theorem ask_badline {b nt l : ByteArray} {ls : List ByteArray} (h : AskP b (l :: ls) nt) {j : Nat} (hj : j < ls.length) (hu : unb64V ls[j] = none) : ∀ r, AskOk r → askB r ≠ b := by
  intro r hr e
  obtain ⟨h1, -⟩ := h r hr e
  injection h1 with _ h1
  subst h1
  rw [List.getElem_map, unb64V_of rfl] at hu
  cases hu
theorem ask_Kn {b nt l t : ByteArray} {ls acc : List ByteArray} {old : Int} (h : AskP b (l :: ls) nt) {j : Nat} (hj : j < ls.length) (hk : AskK b old acc j) (hu : unb64V ls[j] = some t) : AskK b old (acc ++ [t]) (j + 1) := by
  intro r hr e
  obtain ⟨h1, -⟩ := h r hr e
  obtain ⟨h2, h3⟩ := hk r hr e
  injection h1 with _ h1
  subst h1
  rw [List.length_map] at hj
  rw [List.getElem_map, unb64V_of rfl] at hu
  injection hu with hu
  exact ⟨h2, by rw [h3, ← hu, List.take_succ_eq_append_getElem hj]⟩
theorem ask_KJ {b nt l : ByteArray} {ls acc : List ByteArray} {old : Int} (h : AskP b (l :: ls) nt) (hk : AskK b old acc ls.length) : AskJ b ⟨old, acc, nt⟩ := by
  intro r hr e
  obtain ⟨h1, h4⟩ := h r hr e
  obtain ⟨h2, h3⟩ := hk r hr e
  injection h1 with _ h1
  rw [h1, List.length_map, List.take_length] at h3
  rw [h3, ← h2, ← h4]
end Go.Proofs.YtphjpdnheaeghaaDoor

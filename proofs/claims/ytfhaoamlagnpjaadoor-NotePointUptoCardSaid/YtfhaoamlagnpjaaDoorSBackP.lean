/-
  THE PLAIN LAW of NoteBack: what is signed, added to and opened.
-/
import Derived.Test.YtfhaoamlagnpjaaDoorRows
import Derived.Test.YtfhaoamlagnpjaaDoorGBase
import Derived.Test.YtfhaoamlagnpjaaDoorSNoteP
import Derived.Test.YtfhaoamlagnpjaaDoorSNamed
import Derived.Test.YtfhaoamlagnpjaaDoorSSigners
import Derived.Test.YtfhaoamlagnpjaaDoorSAdd
import Derived.Test.YtfhaoamlagnpjaaDoorGOp
set_option linter.unusedVariables false
set_option linter.unusedSimpArgs false
namespace Go.Proofs.YtfhaoamlagnpjaaDoor
open Go.RowKit
/-- The signatures of keys for a text. -/
def sgs (t : ByteArray) (l : List KeyR) : List SigR := l.map (keySig t)
theorem sgs_app (t : ByteArray) (a b : List KeyR) : sgs t (a ++ b) = sgs t a ++ sgs t b := List.map_append
theorem sgs_length (t : ByteArray) (l : List KeyR) : (sgs t l).length = l.length := List.length_map ..
theorem keySig_nm (t : ByteArray) (k : KeyR) : (keySig t k).nm = k.nm := rfl
theorem keySig_id (t : ByteArray) (k : KeyR) : (keySig t k).id = kidB k := rfl
theorem keySig_mc (t : ByteArray) (k : KeyR) : (keySig t k).mc = macB k.sc t := rfl
theorem sgs_ok {t : ByteArray} {l : List KeyR} (h : ∀ k ∈ l, nameOk k.nm = true) : ∀ x ∈ sgs t l, nameOk x.nm = true ∧ SigOk x := fun x hx => by
  obtain ⟨k, hk, rfl⟩ := List.mem_map.1 hx
  exact ⟨h k hk, keySig_ok (h k hk)⟩
theorem sameKey_no {x y : SigR} (h : x.nm ≠ y.nm) : sameKey x y = false := by unfold sameKey; rw [decide_eq_false h, Bool.false_and]
theorem sgs_pw {t : ByteArray} {l : List KeyR} (h : l.Pairwise (fun x y => x.nm ≠ y.nm)) : (sgs t l).Pairwise (fun x y => sameKey x y = false) := by
  unfold sgs
  rw [List.pairwise_map]
  exact h.imp fun {a b} h => sameKey_no h
theorem among_no {t : ByteArray} {l : List KeyR} {x : KeyR} (h : ∀ k ∈ l, k.nm ≠ x.nm) : amongV (sgs t l) (keySig t x) = false := by
  cases ha : amongV (sgs t l) (keySig t x) with
  | false => rfl
  | true =>
    obtain ⟨a, ha1, ha2⟩ := (amongV_iff _ _).1 ha
    obtain ⟨k, hk, rfl⟩ := List.mem_map.1 ha1
    rw [sameKey_no (h k hk)] at ha2
    cases ha2
theorem among_yes {t : ByteArray} {l : List KeyR} {x : KeyR} (h : x ∈ l) : amongV (sgs t l) (keySig t x) = true :=
  (amongV_iff _ _).2 ⟨keySig t x, List.mem_map_of_mem h, by unfold sameKey; simp⟩
theorem signR_all {t : ByteArray} : ∀ (ks acc : List KeyR), (∀ k ∈ ks, nameOk k.nm = true) → (acc ++ ks).Pairwise (fun x y => x.nm ≠ y.nm) → signR t ks (sgs t acc) = writA t (sgs t (acc ++ ks))
  | [], acc, _, _ => by rw [List.append_nil]; rfl
  | k :: r, acc, h1, h2 => by
    rw [signR, if_neg (by rw [h1 k (List.mem_cons_self ..)]; decide), among_no (fun y hy => ?_), if_neg (by decide)]
    · have e : sgs t acc ++ [keySig t k] = sgs t (acc ++ [k]) := by rw [sgs_app]; rfl
      rw [e, signR_all r (acc ++ [k]) (fun x hx => h1 x (List.mem_cons_of_mem _ hx)) (by simpa using h2)]
      simp
    · exact (List.pairwise_append.1 h2).2.2 y hy k (List.mem_cons_self ..)
theorem writL_len {t : ByteArray} {l : List KeyR} (ht : t.size ≤ 20001) (h : ∀ k ∈ l, nameOk k.nm = true) (hl : l.length ≤ 16) : (writL t (sgs t l)).length ≤ 65536 := by
  have h1 := sigsL_ok (sgs t l) (fun x hx => (sgs_ok h x hx).2)
  rw [sgs_length] at h1
  unfold writL
  rw [List.length_append, List.length_append, Array.length_toList]
  have : t.data.size = t.size := rfl
  simp
  omega
theorem writA_ok {t : ByteArray} {l : List KeyR} (ht : t.size ≤ 20001) (h : ∀ k ∈ l, nameOk k.nm = true) (hl : l.length ≤ 16) : writA t (sgs t l) = .tuple #[.string (writB t (sgs t l)), .int .i64 0] := by
  unfold writA; rw [if_neg (by have := writL_len ht h hl; omega)]
theorem writB_size (t : ByteArray) (S : List SigR) : (writB t S).size = (writL t S).length := by show (writL t S).toArray.size = _; rw [List.size_toArray]
theorem sign_all {t : ByteArray} {l : List KeyR} (hg : goesV t = true) (ht : t.size ≤ 20001) (h : ∀ k ∈ l, nameOk k.nm = true) (hp : l.Pairwise (fun x y => x.nm ≠ y.nm)) (h1 : 1 ≤ l.length) (h16 : l.length ≤ 16) : signA t l = .tuple #[.string (writB t (sgs t l)), .int .i64 0] := by
  unfold signA
  rw [if_neg (by rw [hg]; decide), if_neg (by omega), if_neg (by omega)]
  have := signR_all (t := t) l [] h (by simpa using hp)
  rw [show sgs t [] = [] from rfl, List.nil_append] at this
  rw [this, writA_ok ht h h16]
theorem back_all {t : ByteArray} {l : List KeyR} (hg : goesV t = true) (h : ∀ k ∈ l, nameOk k.nm = true) (hp : l.Pairwise (fun x y => x.nm ≠ y.nm)) (h1 : 1 ≤ l.length) (h16 : l.length ≤ 16) : readV (writB t (sgs t l)) = some (t, sgs t l) :=
  read_back hg (sgs_ok h) (sgs_pw hp) (by rw [sgs_length]; exact h1) (by rw [sgs_length]; exact h16)
theorem add_new {t : ByteArray} {l : List KeyR} {x : KeyR} (hg : goesV t = true) (ht : t.size ≤ 20001) (h : ∀ k ∈ l ++ [x], nameOk k.nm = true) (hp : (l ++ [x]).Pairwise (fun x y => x.nm ≠ y.nm)) (h1 : 1 ≤ l.length) (h16 : l.length < 16) :
    addA (writB t (sgs t l)) x = .tuple #[.string (writB t (sgs t (l ++ [x]))), .int .i64 0] := by
  have hl : ∀ k ∈ l, nameOk k.nm = true := fun k hk => h k (List.mem_append_left _ hk)
  obtain ⟨hp1, -, hp3⟩ := List.pairwise_append.1 hp
  unfold addA
  rw [if_neg (by rw [h x (by simp)]; decide), if_neg (by rw [writB_size]; have := writL_len ht hl (by omega); omega), back_all hg hl hp1 h1 (by omega)]
  simp only
  rw [among_no (fun k hk => hp3 k hk x (by simp)), if_neg (by decide), if_neg (by rw [sgs_length]; omega)]
  have e : sgs t l ++ [keySig t x] = sgs t (l ++ [x]) := by rw [sgs_app]; rfl
  rw [e, writA_ok ht h (by simp; omega)]
theorem add_again {t : ByteArray} {l : List KeyR} {x : KeyR} (hg : goesV t = true) (ht : t.size ≤ 20001) (h : ∀ k ∈ l, nameOk k.nm = true) (hp : l.Pairwise (fun x y => x.nm ≠ y.nm)) (hx : x ∈ l) (h16 : l.length ≤ 16) :
    addA (writB t (sgs t l)) x = .tuple #[.string (writB t (sgs t l)), .int .i64 0] := by
  unfold addA
  rw [if_neg (by rw [h x hx]; decide), if_neg (by rw [writB_size]; have := writL_len ht h h16; omega), back_all hg h hp (List.length_pos_of_mem hx) h16]
  simp only
  rw [among_yes hx, if_pos rfl]
theorem writB_more (t : ByteArray) (l : List KeyR) (x : KeyR) : (writB t (sgs t l)).size < (writB t (sgs t (l ++ [x]))).size ∧ (writB t (sgs t (l ++ [x]))).extract 0 (writB t (sgs t l)).size = writB t (sgs t l) := by
  have e : writL t (sgs t (l ++ [x])) = writL t (sgs t l) ++ (sigLine (keySig t x)).data.toList := by
    unfold writL sigsL
    rw [sgs_app, List.flatMap_append, ← List.append_assoc]
    simp [sgs]
  have hpos : 0 < (sigLine (keySig t x)).data.toList.length := by rw [sigLine_list]; simp
  refine ⟨by rw [writB_size, writB_size, e, List.length_append]; omega, ?_⟩
  apply ByteArray.ext
  apply Array.ext'
  rw [ByteArray.data_extract, Array.toList_extract, List.extract_eq_take_drop, writB_size]
  show List.take _ (List.drop 0 (writL t (sgs t (l ++ [x]))).toArray.toList) = (writL t (sgs t l)).toArray.toList
  rw [e]
  simp
/-- Those whose place is asked for. -/
def pick (kb : Nat → Bool) : Nat → List KeyR → List KeyR
  | _, [] => []
  | i, x :: r => if kb i = true then x :: pick kb (i + 1) r else pick kb (i + 1) r
theorem pick_mem (kb : Nat → Bool) : ∀ (l : List KeyR) (i : Nat) (x : KeyR), x ∈ pick kb i l ↔ ∃ j, ∃ hj : j < l.length, kb (i + j) = true ∧ l[j] = x
  | [], i, x => by simp [pick]
  | y :: r, i, x => by
    rw [pick]
    have ih := pick_mem kb r (i + 1) x
    constructor
    · intro h
      split at h
      · rename_i hk
        rcases List.mem_cons.1 h with rfl | h
        · exact ⟨0, by simp, by simpa using hk, rfl⟩
        · obtain ⟨j, hj, h1, h2⟩ := ih.1 h
          exact ⟨j + 1, by simp; omega, by rw [show i + (j + 1) = i + 1 + j from by omega]; exact h1, by simpa using h2⟩
      · obtain ⟨j, hj, h1, h2⟩ := ih.1 h
        exact ⟨j + 1, by simp; omega, by rw [show i + (j + 1) = i + 1 + j from by omega]; exact h1, by simpa using h2⟩
    · rintro ⟨j, hj, h1, h2⟩
      cases j with
      | zero =>
        rw [if_pos (by simpa using h1)]
        exact List.mem_cons.2 (.inl (by simpa using h2.symm))
      | succ j =>
        have h3 := ih.2 ⟨j, by simpa using hj, by rw [show i + 1 + j = i + (j + 1) from by omega]; exact h1, by simpa using h2⟩
        split
        · exact List.mem_cons_of_mem _ h3
        · exact h3
theorem pick_snoc (kb : Nat → Bool) : ∀ (l : List KeyR) (i : Nat) (x : KeyR), pick kb i (l ++ [x]) = pick kb i l ++ if kb (i + l.length) = true then [x] else []
  | [], i, x => by simp [pick]
  | y :: r, i, x => by
    have ih := pick_snoc kb r (i + 1) x
    rw [List.cons_append, pick, pick, ih]
    have e : i + 1 + r.length = i + (y :: r).length := by simp; omega
    rw [e]
    split <;> simp
theorem pick_len (kb : Nat → Bool) : ∀ (l : List KeyR) (i : Nat), (pick kb i l).length ≤ l.length
  | [], i => by simp [pick]
  | y :: r, i => by
    have ih := pick_len kb r (i + 1)
    rw [pick]
    split <;> simp <;> omega
theorem pw_inj {l : List KeyR} (hp : l.Pairwise (fun x y => x.nm ≠ y.nm)) {i j : Nat} (hi : i < l.length) (hj : j < l.length) (h : l[i].nm = l[j].nm) : i = j := by
  rcases Nat.lt_trichotomy i j with hlt | heq | hgt
  · exact absurd h (List.pairwise_iff_getElem.1 hp i j hi hj hlt)
  · exact heq
  · exact absurd h.symm (List.pairwise_iff_getElem.1 hp j i hj hi hgt)
theorem ofKey_iff (t : ByteArray) (x k : KeyR) : ofKey (keySig t x) k = true ↔ nameOk k.nm = true ∧ k.nm = x.nm ∧ kidB k = kidB x := by
  unfold ofKey
  rw [keySig_nm, keySig_id]
  simp [and_assoc]
/-- Opened by some of the signers. -/
theorem openG_pick (t : ByteArray) (l : List KeyR) (kb : Nat → Bool) (hn : ∀ k ∈ l, nameOk k.nm = true) (hp : l.Pairwise (fun x y => x.nm ≠ y.nm)) : ∀ (m i : Nat) (g r : List SigR), l.length - i ≤ m →
    openG t (pick kb 0 l) (sgs t (l.drop i)) g r = some (g ++ sgs t (pick kb i (l.drop i)), r ++ sgs t (pick (fun j => !kb j) i (l.drop i)))
  | 0, i, g, r, h => by
    rw [List.drop_eq_nil_of_le (by omega)]
    simp [sgs, pick, openG]
  | m + 1, i, g, r, h => by
    rcases Nat.lt_or_ge i l.length with hi | hi
    · rw [List.drop_eq_getElem_cons hi]
      have e : sgs t (l[i] :: l.drop (i + 1)) = keySig t l[i] :: sgs t (l.drop (i + 1)) := rfl
      rw [e, openG, pick, pick]
      cases hk : kb i with
      | true =>
        have ho : ownerF (pick kb 0 l) (keySig t l[i]) = some l[i] := by
          unfold ownerF
          have hmem : l[i] ∈ pick kb 0 l := (pick_mem kb l 0 _).2 ⟨i, hi, by simpa using hk, rfl⟩
          cases hf : (pick kb 0 l).find? (ofKey (keySig t l[i])) with
          | none =>
            rw [List.find?_eq_none] at hf
            exact absurd ((ofKey_iff t l[i] l[i]).2 ⟨hn _ (List.getElem_mem hi), rfl, rfl⟩) (hf _ hmem)
          | some y =>
            have h1 := List.find?_some hf
            have h2 := List.mem_of_find?_eq_some hf
            obtain ⟨j, hj, -, rfl⟩ := (pick_mem kb l 0 y).1 h2
            obtain rfl := pw_inj hp hj hi ((ofKey_iff t _ _).1 h1).2.1
            rfl
        rw [ho]
        simp only
        rw [if_pos (keySig_mc t _), if_pos trivial, if_neg (by decide), openG_pick t l kb hn hp m (i + 1) _ _ (by omega)]
        simp [sgs]
      | false =>
        have ho : ownerF (pick kb 0 l) (keySig t l[i]) = none := by
          unfold ownerF
          rw [List.find?_eq_none]
          intro y hy h1
          obtain ⟨j, hj, h3, rfl⟩ := (pick_mem kb l 0 y).1 hy
          obtain rfl := pw_inj hp hj hi ((ofKey_iff t _ _).1 h1).2.1
          rw [Nat.zero_add, hk] at h3
          cases h3
        rw [ho]
        simp only
        rw [if_neg (by decide), if_pos (by decide), openG_pick t l kb hn hp m (i + 1) _ _ (by omega)]
        simp [sgs]
    · rw [List.drop_eq_nil_of_le hi]
      simp [sgs, pick, openG]
theorem openX_pick {t : ByteArray} {l : List KeyR} (kb : Nat → Bool) (hg : goesV t = true) (ht : t.size ≤ 20001) (hn : ∀ k ∈ l, nameOk k.nm = true) (hp : l.Pairwise (fun x y => x.nm ≠ y.nm)) (h1 : 1 ≤ l.length) (h16 : l.length ≤ 16) :
    openX (writB t (sgs t l)) (pick kb 0 l) = if (pick kb 0 l).length = 0 then (⟨#[]⟩, [], [], 202) else (t, sgs t (pick kb 0 l), sgs t (pick (fun j => !kb j) 0 l), 0) := by
  have ho := openG_pick t l kb hn hp l.length 0 [] [] (by omega)
  rw [List.drop_zero, List.nil_append, List.nil_append] at ho
  unfold openX openV
  rw [if_neg (by rw [writB_size]; have := writL_len ht hn h16; omega), back_all hg hn hp h1 h16]
  simp only
  rw [ho]
  simp only
  rw [sgs_length]
  by_cases h0 : (pick kb 0 l).length = 0
  · rw [if_pos h0, if_pos h0]
  · rw [if_neg h0, if_neg h0]
end Go.Proofs.YtfhaoamlagnpjaaDoor

/-
  PLAIN LAW of PeerAsk: a text guessed line by line.
-/
import Derived.Test.YtphjpdnheaeghaaDoorRows
import Derived.Test.YtphjpdnheaeghaaDoorWd
import Derived.Test.YtphjpdnheaeghaaDoorPeerP
import Derived.Test.YtphjpdnheaeghaaDoorUnDec
import Derived.Test.YtphjpdnheaeghaaDoorUnbA
set_option linter.unusedVariables false
set_option linter.unusedSimpArgs false
namespace Go.Proofs.YtphjpdnheaeghaaDoor
open Go.RowKit Go.Lib
/-- The number that a text is guessed to be. -/
def numQ (s : ByteArray) : Int := (undV s).getD 0
theorem numQ_in (s : ByteArray) : -9223372036854775808 ≤ numQ s ∧ numQ s ≤ 9223372036854775807 := by
  unfold numQ
  cases h : undV s with
  | none => constructor <;> decide
  | some z => exact (undV_some h).2
theorem numQ_A (s : ByteArray) : ∃ z : Nat, undA s = .tuple #[.int .i64 (numQ s), .int .i64 (z : Int)] := by
  unfold numQ
  cases h : undV s with
  | none => exact ⟨42, undA_none h⟩
  | some n => exact ⟨0, undA_some h⟩
/-- The bytes that a text is guessed to be. -/
def hshQ (s : ByteArray) : ByteArray := (unb64V s).getD ⟨#[]⟩
theorem hshQ_A (s : ByteArray) : ∃ z : Nat, unbA s = .tuple #[.string (hshQ s), .int .i64 (z : Int)] := by
  unfold hshQ
  cases h : unb64V s with
  | none => exact ⟨40, unbA_none h⟩
  | some n => exact ⟨0, unbA_some h⟩
theorem hshQ_of (h : ByteArray) : hshQ (b64S h) = h := by unfold hshQ; rw [unb64V_of rfl]; rfl
theorem numQ_of {z : Int} (h0 : 0 ≤ z) (h1 : z ≤ 4611686018427387904) : numQ (decS z) = z := by unfold numQ; rw [undV_of (by omega) (by omega) rfl]; rfl
/-- Up to the first newline from a place on. -/
theorem first_nl {l a c : List UInt8} {k i : Nat} (hd : l.drop k = a ++ 10 :: c) (ha : (10 : UInt8) ∉ a) (hk : k ≤ i) (hi : i < l.length) (h1 : l[i] = 10) (h2 : ∀ j (h : j < l.length), k ≤ j → j < i → l[j] ≠ 10) : i = k + a.length ∧ (l.take i).drop k = a ∧ l.drop (i + 1) = c := by
  have hg : ∀ j (h : k + j < l.length), l[k + j] = (a ++ 10 :: c)[j]'(by rw [← hd, List.length_drop]; omega) := by
    intro j h
    simp only [← hd, List.getElem_drop]
  have hlen : l.length - k = a.length + (c.length + 1) := by have := congrArg List.length hd; simpa using this
  have e : i = k + a.length := by
    rcases Nat.lt_trichotomy i (k + a.length) with h | h | h
    · exfalso
      have h3 := hg (i - k) (by omega)
      simp only [show k + (i - k) = i by omega] at h3
      rw [h1, List.getElem_append_left (by omega)] at h3
      exact ha (by rw [h3]; exact List.getElem_mem _)
    · exact h
    · exfalso
      have h3 := hg a.length (by omega)
      rw [List.getElem_append_right (by omega)] at h3
      simp only [Nat.sub_self, List.getElem_cons_zero] at h3
      exact h2 _ (by omega) (by omega) (by omega) h3
  refine ⟨e, ?_, ?_⟩
  · rw [e, show k + a.length = a.length + k by omega, List.drop_take, hd, Nat.add_sub_cancel, List.take_left' rfl]
  · have h4 : l.drop (i + 1) = (l.drop k).drop (a.length + 1) := by rw [List.drop_drop, e]; congr 1
    rw [h4, hd]
    simp
theorem ex_list (b : ByteArray) (i j : Nat) (hj : j ≤ b.size) : (b.extract i j).data.toList = (b.data.toList.take j).drop i := by
  rw [ByteArray.data_extract, Array.toList_extract, List.drop_take]
theorem bs_of {a b : ByteArray} (h : a.data.toList = b.data.toList) : a = b := by apply ByteArray.ext; apply Array.ext'; exact h
/-- A request's text, line by line. -/
theorem askB_list (r : RqR) : (askB r).data.toList = ([111, 108, 100, 32] ++ (decS r.old).data.toList) ++ 10 :: (r.pf.flatMap (fun h => (b64S h).data.toList ++ [10]) ++ 10 :: r.nt.data.toList) := by
  rw [ask_text]
  simp [ByteArray.data_append]
/-- What is known of every request with this text: behind k hashes. -/
def AskI (b : ByteArray) (old : Int) (acc : List ByteArray) (k at_ : Nat) : Prop := ∀ r, AskOk r → askB r = b → r.old = old ∧ k ≤ r.pf.length ∧ acc = r.pf.take k ∧ b.data.toList.drop at_ = (r.pf.drop k).flatMap (fun h => (b64S h).data.toList ++ [10]) ++ 10 :: r.nt.data.toList
/-- At the end. -/
def AskJ (b : ByteArray) (r' : RqR) : Prop := ∀ r, AskOk r → askB r = b → r = r'
theorem ask_no0 {b : ByteArray} (h : ∀ j (h : j < b.data.toList.length), 0 ≤ j → b.data.toList[j] ≠ 10) : ∀ r, AskOk r → askB r ≠ b := by
  intro r hr e
  have h1 := askB_list r
  rw [e] at h1
  have hl := congrArg List.length h1
  rw [List.length_append, List.length_cons] at hl
  refine h (([111, 108, 100, 32] ++ (decS r.old).data.toList).length) (by omega) (by omega) ?_
  simp only [h1]
  rw [List.getElem_append_right (Nat.le_refl _)]
  simp
theorem ask_head {b : ByteArray} {i : Nat} (hi : i < b.size) (h1 : ∀ (h : i < b.data.toList.length), b.data.toList[i] = 10) (h2 : ∀ j (h : j < b.data.toList.length), 0 ≤ j → j < i → b.data.toList[j] ≠ 10) : ∀ r, AskOk r → askB r = b → 4 ≤ i ∧ b.extract 4 i = decS r.old ∧ b.data.toList.drop (i + 1) = r.pf.flatMap (fun h => (b64S h).data.toList ++ [10]) ++ 10 :: r.nt.data.toList := by
  intro r hr e
  have hll : b.data.toList.length = b.size := Array.length_toList
  have h3 := askB_list r
  rw [e] at h3
  obtain ⟨e1, e2, e3⟩ := first_nl (k := 0) (by rw [List.drop_zero]; exact h3) (fun hm => by
    rcases List.mem_append.1 hm with h4 | h4
    · revert h4; decide
    · exact decS_no10 _ h4) (Nat.zero_le _) (by omega) (h1 (by omega)) h2
  have h4 : 4 ≤ i := by rw [e1]; simp
  refine ⟨h4, bs_of ?_, e3⟩
  rw [ex_list _ _ _ (by omega)]
  rw [List.drop_zero] at e2
  rw [e2]
  rfl
theorem ask_J0 {b : ByteArray} {i : Nat} (hi : i < b.size) (h1 : ∀ (h : i < b.data.toList.length), b.data.toList[i] = 10) (h2 : ∀ j (h : j < b.data.toList.length), 0 ≤ j → j < i → b.data.toList[j] ≠ 10) : AskI b (numQ (b.extract 4 i)) [] 0 (i + 1) := by
  intro r hr e
  obtain ⟨h3, h4, h5⟩ := ask_head hi h1 h2 r hr e
  exact ⟨by rw [h4, numQ_of hr.1 hr.2.1], Nat.zero_le _, rfl, h5⟩
theorem ask_no1 {b : ByteArray} {i : Nat} (hi : i < b.size) (hi4 : i < 4) (h1 : ∀ (h : i < b.data.toList.length), b.data.toList[i] = 10) (h2 : ∀ j (h : j < b.data.toList.length), 0 ≤ j → j < i → b.data.toList[j] ≠ 10) : ∀ r, AskOk r → askB r ≠ b := fun r hr e => by
  have := (ask_head hi h1 h2 r hr e).1
  omega
theorem ask_noline {b : ByteArray} {old : Int} {acc : List ByteArray} {k at_ : Nat} (h : AskI b old acc k at_) (hn : ∀ j (h : j < b.data.toList.length), at_ ≤ j → b.data.toList[j] ≠ 10) : ∀ r, AskOk r → askB r ≠ b := by
  intro r hr e
  obtain ⟨-, -, -, h4⟩ := h r hr e
  have hm : (10 : UInt8) ∈ b.data.toList.drop at_ := by rw [h4]; simp
  obtain ⟨j, hj, hx⟩ := List.mem_iff_getElem.1 hm
  rw [List.length_drop] at hj
  rw [List.getElem_drop] at hx
  exact hn (at_ + j) (by omega) (by omega) hx
/-- An empty line: the proof is at its end. -/
theorem ask_blank {b : ByteArray} {old : Int} {acc : List ByteArray} {k at_ i : Nat} (h : AskI b old acc k at_) (hk : at_ ≤ i) (hi : i < b.size) (h1 : ∀ (h : i < b.data.toList.length), b.data.toList[i] = 10) (h2 : ∀ j (h : j < b.data.toList.length), at_ ≤ j → j < i → b.data.toList[j] ≠ 10) (he : i = at_) : AskJ b ⟨old, acc, b.extract (i + 1) b.size⟩ := by
  intro r hr e
  have hll : b.data.toList.length = b.size := Array.length_toList
  obtain ⟨a1, a2, a3, a4⟩ := h r hr e
  rcases Nat.lt_or_ge k r.pf.length with hlt | hge
  · exfalso
    rw [List.drop_eq_getElem_cons hlt, List.flatMap_cons, List.append_assoc, List.append_assoc] at a4
    obtain ⟨e1, -, -⟩ := first_nl a4 (b64S_no10 _) hk (by omega) (h1 (by omega)) h2
    have := b64S_ne (hr.2.2.2 _ (List.getElem_mem hlt)).1
    have := List.length_pos_iff.2 this
    omega
  · rw [List.drop_of_length_le hge, List.flatMap_nil] at a4
    obtain ⟨-, -, e3⟩ := first_nl a4 (by simp) hk (by omega) (h1 (by omega)) h2
    have e4 : r.nt = b.extract (i + 1) b.size := bs_of (by
      rw [ex_list _ _ _ (Nat.le_refl _), ← hll, List.take_length, e3])
    rw [← e4, ← a1, a3, List.take_of_length_le hge]
/-- A line of the proof. -/
theorem ask_more {b : ByteArray} {old : Int} {acc : List ByteArray} {k at_ i : Nat} (h : AskI b old acc k at_) (hk : at_ ≤ i) (hi : i < b.size) (h1 : ∀ (h : i < b.data.toList.length), b.data.toList[i] = 10) (h2 : ∀ j (h : j < b.data.toList.length), at_ ≤ j → j < i → b.data.toList[j] ≠ 10) (he : i ≠ at_) : AskI b old (acc ++ [hshQ (b.extract at_ i)]) (k + 1) (i + 1) := by
  intro r hr e
  have hll : b.data.toList.length = b.size := Array.length_toList
  obtain ⟨a1, a2, a3, a4⟩ := h r hr e
  rcases Nat.lt_or_ge k r.pf.length with hlt | hge
  · rw [List.drop_eq_getElem_cons hlt, List.flatMap_cons, List.append_assoc, List.append_assoc] at a4
    obtain ⟨-, e2, e3⟩ := first_nl a4 (b64S_no10 _) hk (by omega) (h1 (by omega)) h2
    have e4 : b.extract at_ i = b64S r.pf[k] := bs_of (by rw [ex_list _ _ _ (by omega), e2])
    refine ⟨a1, hlt, ?_, by rw [e3]; rfl⟩
    rw [e4, hshQ_of, a3, List.take_succ_eq_append_getElem hlt]
  · exfalso
    rw [List.drop_of_length_le hge, List.flatMap_nil] at a4
    obtain ⟨e1, -, -⟩ := first_nl a4 (by simp) hk (by omega) (h1 (by omega)) h2
    simp at e1
    omega
theorem ask_full {b : ByteArray} {old : Int} {acc : List ByteArray} {k at_ : Nat} (h : AskI b old acc k at_) (hk : 63 < k) (r' : RqR) : AskJ b r' := by
  intro r hr e
  have := (h r hr e).2.1
  have := hr.2.2.1
  omega
theorem ask_not {b : ByteArray} {r' : RqR} (h : AskJ b r') (hn : askE r' ≠ 0 ∨ askB r' ≠ b) : ∀ r, AskOk r → askB r ≠ b := by
  intro r hr e
  obtain rfl := h r hr e
  rcases hn with hn | hn
  · exact hn (askE_ok.2 hr)
  · exact hn e
end Go.Proofs.YtphjpdnheaeghaaDoor

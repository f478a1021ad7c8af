/-
  PLAIN LAW of PeerAsk: a request's text, and what it is read as.
-/
import Derived.Test.YtphjpdnheaeghaaDoorRows
import Derived.Test.YtphjpdnheaeghaaDoorWd
import Derived.Test.YtphjpdnheaeghaaDoorDec
import Derived.Test.YtphjpdnheaeghaaDoorB64
import Derived.Test.YtphjpdnheaeghaaDoorUnBP
import Derived.Test.YtphjpdnheaeghaaDoorUnDP
import Derived.Test.YtphjpdnheaeghaaDoorLinesP
import Derived.Test.YtphjpdnheaeghaaDoorStrRow
set_option linter.unusedVariables false
set_option linter.unusedSimpArgs false
namespace Go.Proofs.YtphjpdnheaeghaaDoor
open Go.RowKit Go.Lib
/-- A request. -/
structure RqR where
  old : Int
  pf : List ByteArray
  nt : ByteArray
/-- The head of its text: the first line and the proof's, without the last newline. -/
def headL (r : RqR) : List UInt8 := [111, 108, 100, 32] ++ (decS r.old).data.toList ++ r.pf.flatMap (fun h => 10 :: (b64S h).data.toList)
def askB (r : RqR) : ByteArray := ⟨(headL r ++ 10 :: 10 :: r.nt.data.toList).toArray⟩
/-- A request that has a text. -/
def AskOk (r : RqR) : Prop := 0 ≤ r.old ∧ r.old ≤ 4611686018427387904 ∧ r.pf.length ≤ 63 ∧ ∀ h ∈ r.pf, 1 ≤ h.size ∧ h.size ≤ 32
/-- The refusal's number, or 0. -/
def askE (r : RqR) : Nat := if r.old < 0 ∨ 4611686018427387904 < r.old then 10 else if 63 < r.pf.length then 83 else if r.pf.all (fun h => decide (1 ≤ h.size ∧ h.size ≤ 32)) then 0 else 72
theorem askE_ok {r : RqR} : askE r = 0 ↔ AskOk r := by
  unfold askE AskOk
  by_cases h1 : r.old < 0 ∨ 4611686018427387904 < r.old
  · rw [if_pos h1]; constructor
    · intro h; cases h
    · intro h; omega
  · rw [if_neg h1]
    by_cases h2 : 63 < r.pf.length
    · rw [if_pos h2]; constructor
      · intro h; cases h
      · intro h; omega
    · rw [if_neg h2]
      by_cases h3 : r.pf.all (fun h => decide (1 ≤ h.size ∧ h.size ≤ 32)) = true
      · rw [if_pos h3]
        simp only [List.all_eq_true, decide_eq_true_eq] at h3
        exact ⟨fun _ => ⟨by omega, by omega, by omega, h3⟩, fun _ => rfl⟩
      · rw [if_neg h3]
        constructor
        · intro h; cases h
        · intro h
          exfalso; apply h3
          simp only [List.all_eq_true, decide_eq_true_eq]
          exact h.2.2.2
theorem sgn_no : ∀ v : Fin 64, sgn v.val ≠ 10 := by decide
theorem b64L_no10 : ∀ (n : Nat) (l : List UInt8), l.length ≤ n → (10 : UInt8) ∉ b64L l
  | 0, l, h, hm => by
    obtain rfl := List.eq_nil_of_length_eq_zero (Nat.le_zero.1 h)
    rw [b64L_nil] at hm; cases hm
  | n + 1, l, h, hm => by
    cases l with
    | nil => rw [b64L_nil] at hm; cases hm
    | cons a r =>
      rw [b64L_cons (by simp)] at hm
      rcases List.mem_append.1 hm with h1 | h1
      · unfold four at h1
        obtain ⟨i, hi, e⟩ := List.mem_map.1 h1
        unfold put4 at e
        split at e
        · cases e
        · exact sgn_no ⟨_, Nat.mod_lt _ (by omega)⟩ e
      · exact b64L_no10 n _ (by simp at h ⊢; omega) h1
theorem b64S_no10 (s : ByteArray) : (10 : UInt8) ∉ (b64S s).data.toList := b64L_no10 _ _ (Nat.le_refl _)
theorem digL_no10 : ∀ (k n : Nat), n < 10 ^ k → (10 : UInt8) ∉ digL n
  | 0, n, hk, hm => by
    obtain rfl : n = 0 := by omega
    rw [digL_lt (by omega)] at hm
    revert hm; decide
  | k + 1, n, hk, hm => by
    have e : ∀ v : Fin 10, (10 : UInt8) ≠ (48 + v.val).toUInt8 := by decide
    by_cases h : n < 10
    · rw [digL_lt h, List.mem_singleton] at hm
      exact e ⟨n, h⟩ hm
    · rw [digL_ge (by omega)] at hm
      rcases List.mem_append.1 hm with h1 | h1
      · exact digL_no10 k (n / 10) (by rw [Nat.pow_succ] at hk; omega) h1
      · rw [List.mem_singleton] at h1
        exact e ⟨n % 10, by omega⟩ h1
theorem decS_no10 (z : Int) : (10 : UInt8) ∉ (decS z).data.toList := by
  have hp : ∀ n : Nat, (10 : UInt8) ∉ digL n := fun n => digL_no10 n n (Nat.lt_pow_self (by decide))
  show (10 : UInt8) ∉ decL z
  unfold decL
  split
  · exact hp _
  · intro hm
    rcases List.mem_cons.1 hm with h | h
    · revert h; decide
    · exact hp _ h
/-- The first two newlines in a row part a text. -/
def cut2 : List UInt8 → Option (List UInt8 × List UInt8)
  | [] => none
  | [_] => none
  | x :: y :: r => if x = 10 ∧ y = 10 then some ([], r) else (cut2 (y :: r)).map (fun p => (x :: p.1, p.2))
theorem cut2_free : ∀ (a rest : List UInt8), (10 : UInt8) ∉ a → cut2 (a ++ 10 :: 10 :: rest) = some (a, rest)
  | [], rest, _ => by simp [cut2]
  | [x], rest, h => by
    have h1 : ¬ x = 10 := fun e => h (by simp [e])
    simp [cut2, h1]
  | x :: y :: a, rest, h => by
    have h1 : ¬ x = 10 := fun e => h (by simp [e])
    have ih := cut2_free (y :: a) rest (fun hm => h (List.mem_cons_of_mem _ hm))
    rw [List.cons_append, List.cons_append, cut2, if_neg (fun e => h1 e.1)]
    rw [List.cons_append] at ih
    rw [ih]; rfl
/-- A line that is not empty ahead of it. -/
theorem cut2_line : ∀ (a b : List UInt8) (p : List UInt8 × List UInt8), (10 : UInt8) ∉ a → a ≠ [] → b.head? ≠ some 10 → cut2 b = some p → cut2 (a ++ 10 :: b) = some (a ++ 10 :: p.1, p.2)
  | [], b, p, _, h, _, _ => absurd rfl h
  | [x], b, p, h, _, hb, hc => by
    have h1 : ¬ x = 10 := fun e => h (by simp [e])
    rw [List.cons_append, List.nil_append, cut2, if_neg (fun e => h1 e.1)]
    cases b with
    | nil => simp [cut2] at hc
    | cons z b =>
      have h2 : ¬ z = 10 := fun e => hb (by simp [e])
      rw [cut2, if_neg (fun e => h2 e.2), hc]; rfl
  | x :: y :: a, b, p, h, _, hb, hc => by
    have h1 : ¬ x = 10 := fun e => h (by simp [e])
    have ih := cut2_line (y :: a) b p (fun hm => h (List.mem_cons_of_mem _ hm)) (by simp) hb hc
    rw [List.cons_append, List.cons_append, cut2, if_neg (fun e => h1 e.1)]
    rw [List.cons_append] at ih
    rw [ih]; rfl
theorem b64S_ne {h : ByteArray} (h1 : 1 ≤ h.size) : (b64S h).data.toList ≠ [] := fun e => by
  have h2 := b64S_size h
  have h3 : (b64S h).data.toList.length = (b64S h).size := Array.length_toList
  rw [e] at h3
  simp at h3
  omega
theorem cut2_rows : ∀ (pf : List ByteArray) (a rest : List UInt8), (∀ h ∈ pf, 1 ≤ h.size) → (10 : UInt8) ∉ a → a ≠ [] → cut2 (a ++ pf.flatMap (fun h => 10 :: (b64S h).data.toList) ++ 10 :: 10 :: rest) = some (a ++ pf.flatMap (fun h => 10 :: (b64S h).data.toList), rest)
  | [], a, rest, _, ha, _ => by simpa using cut2_free a rest ha
  | h :: pf, a, rest, hp, ha, hne => by
    have h1 := hp h (List.mem_cons_self ..)
    have ih := cut2_rows pf (b64S h).data.toList rest (fun x hx => hp x (List.mem_cons_of_mem _ hx)) (b64S_no10 h) (b64S_ne h1)
    have hb : ((b64S h).data.toList ++ pf.flatMap (fun h => 10 :: (b64S h).data.toList) ++ 10 :: 10 :: rest).head? ≠ some 10 := by
      cases hq : (b64S h).data.toList with
      | nil => exact absurd hq (b64S_ne h1)
      | cons z q =>
        intro e
        simp at e
        exact b64S_no10 h (by rw [hq, e]; simp)
    have h2 := cut2_line a _ _ ha hne hb ih
    simpa using h2
/-- A request's text is parted where its note begins. -/
theorem ask_cut {r : RqR} (h : AskOk r) : cut2 (askB r).data.toList = some (headL r, r.nt.data.toList) := by
  show cut2 (headL r ++ 10 :: 10 :: r.nt.data.toList) = _
  unfold headL
  refine cut2_rows r.pf _ _ (fun x hx => (h.2.2.2 x hx).1) (fun hm => ?_) (by simp)
  rcases List.mem_append.1 hm with h1 | h1
  · revert h1; decide
  · exact decS_no10 _ h1
theorem head_lines (r : RqR) : splL 10 (headL r) = ([111, 108, 100, 32] ++ (decS r.old).data.toList) :: r.pf.map (fun h => (b64S h).data.toList) := by
  have key : ∀ (pf : List ByteArray) (a : List UInt8), (10 : UInt8) ∉ a → splL 10 (a ++ pf.flatMap (fun h => 10 :: (b64S h).data.toList)) = a :: pf.map (fun h => (b64S h).data.toList) := by
    intro pf
    induction pf with
    | nil => intro a ha; simpa using splL_free 10 a ha
    | cons h pf ih =>
      intro a ha
      rw [List.flatMap_cons, List.cons_append, splL_at 10 a _ ha, ih _ (b64S_no10 h)]
      rfl
  refine key r.pf _ (fun hm => ?_)
  rcases List.mem_append.1 hm with h1 | h1
  · revert h1; decide
  · exact decS_no10 _ h1
/-- A text says one request. -/
theorem ask_one {r q : RqR} (hr : AskOk r) (hq : AskOk q) (h : askB r = askB q) : r = q := by
  have h1 := ask_cut hr
  rw [h, ask_cut hq] at h1
  simp only [Option.some.injEq, Prod.mk.injEq] at h1
  have h2 := head_lines r
  rw [← h1.1, head_lines q] at h2
  injection h2 with h2 h3
  have e1 := List.append_cancel_left h2
  have e2 : decS q.old = decS r.old := by apply ByteArray.ext; apply Array.ext'; exact e1
  have e3 : q.old = r.old := by
    have a := undV_of (s := decS r.old) (by have := hr.1; omega) (by have := hr.2.1; omega) rfl
    have b := undV_of (s := decS q.old) (by have := hq.1; omega) (by have := hq.2.1; omega) rfl
    rw [e2, a] at b
    injection b with b
    exact b.symm
  have e4 : q.pf = r.pf := by
    have hm : ∀ (a b : List ByteArray), a.map (fun h => (b64S h).data.toList) = b.map (fun h => (b64S h).data.toList) → a = b := by
      intro a
      induction a with
      | nil => intro b hb; cases b with
        | nil => rfl
        | cons y b => simp at hb
      | cons x a ih =>
        intro b hb
        cases b with
        | nil => simp at hb
        | cons y b =>
          simp only [List.map_cons, List.cons.injEq] at hb
          have e : b64S x = b64S y := by apply ByteArray.ext; apply Array.ext'; exact hb.1
          have u := unb64V_of (s := b64S y) e
          have u2 := unb64V_of (t := y) (s := b64S y) rfl
          rw [u] at u2
          injection u2 with u2
          rw [u2, ih b hb.2]
    exact hm _ _ h3
  have e5 : q.nt = r.nt := by apply ByteArray.ext; apply Array.ext'; exact h1.2
  obtain ⟨a, b, c⟩ := r
  obtain ⟨a', b', c'⟩ := q
  simp only at e3 e4 e5
  rw [e3, e4, e5]
/-- The text as the program writes it: each line with its newline behind it. -/
theorem ask_text (r : RqR) : askB r = ⟨#[111, 108, 100, 32]⟩ ++ decS r.old ++ ⟨#[10]⟩ ++ ⟨(r.pf.flatMap (fun h => (b64S h).data.toList ++ [10])).toArray⟩ ++ ⟨#[10]⟩ ++ r.nt := by
  have key : ∀ (pf : List ByteArray) (z : List UInt8), pf.flatMap (fun h => 10 :: (b64S h).data.toList) ++ 10 :: z = 10 :: (pf.flatMap (fun h => (b64S h).data.toList ++ [10]) ++ z) := by
    intro pf
    induction pf with
    | nil => intro z; rfl
    | cons h pf ih => intro z; simp only [List.flatMap_cons, List.cons_append, List.append_assoc]; rw [ih]; simp
  apply ByteArray.ext
  apply Array.ext'
  simp only [ByteArray.data_append, Array.toList_append]
  show headL r ++ 10 :: 10 :: r.nt.data.toList = _
  unfold headL
  rw [List.append_assoc, key]
  simp
theorem flat_snoc (pf : List ByteArray) (h : ByteArray) : ((pf ++ [h]).flatMap (fun h => (b64S h).data.toList ++ [10])) = pf.flatMap (fun h => (b64S h).data.toList ++ [10]) ++ ((b64S h).data.toList ++ [10]) := by
  rw [List.flatMap_append]; simp
theorem askB_size (r : RqR) (h : ∀ x ∈ r.pf, x.size ≤ 32) : (askB r).size ≤ 6 + (decS r.old).size + 45 * r.pf.length + r.nt.size := by
  have e : (askB r).size = (headL r ++ 10 :: 10 :: r.nt.data.toList).length := by show (List.toArray _).size = _; rw [List.size_toArray]
  have hn : r.nt.data.toList.length = r.nt.size := Array.length_toList
  have hd : (decS r.old).data.toList.length = (decS r.old).size := Array.length_toList
  have key : ∀ pf : List ByteArray, (∀ x ∈ pf, x.size ≤ 32) → (pf.flatMap (fun h => 10 :: (b64S h).data.toList)).length ≤ 45 * pf.length := by
    intro pf
    induction pf with
    | nil => intro _; simp
    | cons x pf ih =>
      intro hp
      have h1 := ih (fun y hy => hp y (List.mem_cons_of_mem _ hy))
      have h2 := hp x (List.mem_cons_self ..)
      have h3 : (b64S x).data.toList.length = (b64S x).size := Array.length_toList
      have h4 := b64S_size x
      rw [List.flatMap_cons, List.length_append, List.length_cons, List.length_cons]
      omega
  have hk := key r.pf h
  rw [e]
  unfold headL
  simp only [List.length_append, List.length_cons, List.length_nil, hn, hd]
  omega
/-- What Asked answers. -/
def AskedR (w' : World) (base : Nat) (b : ByteArray) (e : Ending) : Prop :=
  (∃ r vp, AskOk r ∧ askB r = b ∧ e = .returned (.tuple #[.agg #[.int .i64 r.old, vp, .string r.nt], .int .i64 0]) ∧ OwnT w' base vp r.pf) ∨
  ((∀ r, AskOk r → askB r ≠ b) ∧ e = .returned (.tuple #[.agg #[.int .i64 0, .slice none 0 0, .string ⟨#[]⟩], .int .i64 13]))
theorem asked_unif (b : ByteArray) : ∃ (r : RqR) (z : Int), r.pf.length ≤ 63 ∧ (z = 0 ∨ z = 13) ∧ (z = 0 → AskOk r ∧ askB r = b) ∧ ∀ (w' : World) (base : Nat) (e : Ending), AskedR w' base b e → ∃ A c, e = .returned (.tuple #[.agg #[.int .i64 r.old, .slice A r.pf.length c, .string r.nt], .int .i64 z]) ∧ OwnT w' base (.slice A r.pf.length c) r.pf := by
  have hsl : ∀ {w' : World} {base : Nat} {v : Value} {es : List ByteArray}, OwnT w' base v es → ∃ A c, v = .slice A es.length c := fun {w' base v es} h => by
    rcases h.form with ⟨hv, he⟩ | ⟨g, cap, hv, -⟩
    · exact ⟨none, 0, by rw [hv, he]; rfl⟩
    · exact ⟨_, cap, hv⟩
  by_cases hq : ∃ r, AskOk r ∧ askB r = b
  · obtain ⟨r, hr, hb⟩ := hq
    refine ⟨r, 0, hr.2.2.1, .inl rfl, fun _ => ⟨hr, hb⟩, ?_⟩
    rintro w' base e (⟨q, vp, hq, hqb, rfl, hO⟩ | ⟨hno, -⟩)
    · obtain rfl := ask_one hq hr (hqb.trans hb.symm)
      obtain ⟨A, c, rfl⟩ := hsl hO
      exact ⟨A, c, rfl, hO⟩
    · exact absurd hb (hno r hr)
  · refine ⟨⟨0, [], ⟨#[]⟩⟩, 13, by simp, .inr rfl, fun h => absurd h (by decide), ?_⟩
    rintro w' base e (⟨q, vp, hq', hqb, -⟩ | ⟨-, rfl⟩)
    · exact absurd ⟨q, hq', hqb⟩ hq
    · exact ⟨none, 0, rfl, OwnT.nil _ _⟩
end Go.Proofs.YtphjpdnheaeghaaDoor

/-
  Several texts in one: THE PLAIN LAW of a note that is read: its lines from the end, as the program goes, are its last empty line and the lines behind it, as the document says. | WORDS for note.read: a range over an iterator in plain wp; what its blocks hold. | CONTRACT of note.read: a note is taken apart.
-/
import Derived.Test.YtphoflcilpopgaaGreatDoorRows
import Derived.Deep.DeepMust
import Derived.Test.YtphoflcilpopgaaGreatDoorGBase
import Derived.Test.YtphoflcilpopgaaGreatDoorGLns
import Derived.Test.YtphoflcilpopgaaGreatDoorGRng
import Derived.Test.YtphoflcilpopgaaGreatDoorSSigned
import Derived.Test.YtphoflcilpopgaaGreatDoorGSigs
import Derived.Test.YtphoflcilpopgaaGreatDoorGWhl
import Derived.Test.YtphoflcilpopgaaGreatDoorSShelf
import Derived.Test.YtphoflcilpopgaaGreatDoorGDecs
set_option linter.unusedVariables false
set_option linter.unusedSimpArgs false
namespace Go.Proofs.YtphoflcilpopgaaGreatDoor
open Go.RowKit
/-- The lines from the end on, as the program reads them. -/
def rdGo (note : ByteArray) : List (Nat × ByteArray) → List SigR → Option (ByteArray × List SigR)
  | [], _ => none
  | (a, l) :: r, acc =>
    if l.size = 0 then (if goesV (note.extract 0 a) = true ∧ acc.length ≠ 0 then some (note.extract 0 a, acc.reverse) else none)
    else match sigP l with
      | none => none
      | some x => if amongV acc x = true ∨ acc.length = 16 then none else rdGo note r (acc ++ [x])
/-- What a note says: its text and its signatures. -/
def readV (note : ByteArray) : Option (ByteArray × List SigR) := if note.data.toList.getLast? = some 10 then rdGo note (fromEndL note) [] else none
/-- The signatures' lines one after the other. -/
def rdFw : List ByteArray → List SigR → Option (List SigR)
  | [], acc => some acc
  | l :: r, acc => match sigP l with
    | none => none
    | some x => if amongV acc x = true then none else rdFw r (acc ++ [x])
/-- What the document says, its part of the note being known. -/
def refV (note : ByteArray) (z : Int) : Option (ByteArray × List SigR) :=
  if z < 0 then none else
    if goesV (note.extract 0 z.toNat) = true then match linesV (note.extract (z.toNat + 1) note.size) with
      | none => none
      | some L => if L.length = 0 ∨ 16 < L.length then none else (rdFw L []).map fun S => (note.extract 0 z.toNat, S)
    else none
/-- No two newlines stand side by side. -/
def NoTwo : List UInt8 → Prop
  | [] => True
  | a :: r => ¬ (a = 10 ∧ r.head? = some 10) ∧ NoTwo r
/-- Where the document parts a note. -/
def PartIs (L : List UInt8) (z : Int) : Prop :=
  (z = -1 ∧ NoTwo L) ∨ ∃ u v, L = u ++ 10 :: v ∧ u.getLast? = some 10 ∧ NoTwo (10 :: v) ∧ z = (u.length : Int)
theorem NoTwo.right : ∀ {a b : List UInt8}, NoTwo (a ++ b) → NoTwo b
  | [], _, h => h
  | _ :: _, _, h => NoTwo.right h.2
theorem NoTwo.no {a b : List UInt8} (h : NoTwo (a ++ 10 :: 10 :: b)) : False := (NoTwo.right h).1 ⟨rfl, rfl⟩
/-- The lines, each with its newline. -/
def joinL (ls : List (List UInt8)) : List UInt8 := ls.flatMap fun x => x ++ [10]
theorem joinL_app (a b : List (List UInt8)) : joinL (a ++ b) = joinL a ++ joinL b := List.flatMap_append
theorem joinL_one (x : List UInt8) : joinL [x] = x ++ [10] := by simp [joinL]
theorem joinL_cons (x : List UInt8) (r : List (List UInt8)) : joinL (x :: r) = x ++ 10 :: joinL r := by simp [joinL]
theorem noTwo_line : ∀ {x r : List UInt8}, x ≠ [] → (10 : UInt8) ∉ x → NoTwo (10 :: r) → NoTwo (x ++ 10 :: r)
  | [], _, h, _, _ => absurd rfl h
  | [a], r, _, hn, h => ⟨fun e => hn (by simp [e.1]), h⟩
  | a :: b :: t, r, _, hn, h => ⟨fun e => hn (by simp [e.1]), noTwo_line (x := b :: t) (by simp) (fun e => hn (List.mem_cons_of_mem _ e)) h⟩
theorem noTwo_lines : ∀ {ls : List (List UInt8)}, (∀ x ∈ ls, x ≠ [] ∧ (10 : UInt8) ∉ x) → NoTwo (10 :: joinL ls)
  | [], _ => ⟨fun e => by simp [joinL] at e, trivial⟩
  | x :: r, h => by
    have hx := h x (List.mem_cons_self ..)
    have ih := noTwo_lines (ls := r) (fun y hy => h y (List.mem_cons_of_mem _ hy))
    rw [joinL_cons]
    refine ⟨fun e => ?_, noTwo_line hx.1 hx.2 ih⟩
    obtain ⟨a, t, hat⟩ := List.exists_cons_of_ne_nil hx.1
    have h2 := e.2
    rw [hat] at h2
    simp at h2
    exact hx.2 (by rw [hat, h2]; simp)
theorem noTwo_tail {a : UInt8} {r : List UInt8} (h : NoTwo (a :: r)) : NoTwo r := h.2
theorem splL_app (c : UInt8) : ∀ q r : List UInt8, splL c (q ++ c :: r) = splL c q ++ splL c r
  | [], r => by simp [splL]
  | x :: q, r => by
    have ih := splL_app c q r
    have hn := splL_ne c q
    simp only [List.cons_append, splL, ih]
    split
    · rfl
    · cases h : splL c q with
      | nil => exact absurd h hn
      | cons y t => rfl
theorem splL_mem_free (c : UInt8) : ∀ (l x : List UInt8), x ∈ splL c l → c ∉ x
  | [], x, h => by simp [splL] at h; subst h; simp
  | a :: r, x, h => by
    have ih := splL_mem_free c r
    have hn := splL_ne c r
    simp only [splL] at h
    split at h
    · rcases List.mem_cons.1 h with rfl | h
      · simp
      · exact ih x h
    · rename_i hac
      cases hs : splL c r with
      | nil => exact absurd hs hn
      | cons y t =>
        rw [hs] at h ih
        rcases List.mem_cons.1 h with rfl | h
        · have := ih y (List.mem_cons_self ..)
          simp [this]; exact fun e => hac e.symm
        · exact ih x (List.mem_cons_of_mem _ h)
/-- The lines with the places where they begin. -/
def zipO : Nat → List (List UInt8) → List (Nat × ByteArray)
  | _, [] => []
  | o, x :: r => (o, bsL x) :: zipO (o + x.length + 1) r
theorem zipO_app : ∀ (a b : List (List UInt8)) (o : Nat), zipO o (a ++ b) = zipO o a ++ zipO (o + (joinL a).length) b
  | [], b, o => by simp [zipO, joinL]
  | x :: r, b, o => by
    have e : o + (joinL (x :: r)).length = o + x.length + 1 + (joinL r).length := by rw [joinL_cons]; simp; omega
    rw [e, List.cons_append, zipO, zipO, zipO_app r b, List.cons_append]
theorem bsL_inj {a b : List UInt8} (h : bsL a = bsL b) : a = b := by
  have := congrArg (fun x : ByteArray => x.data.toList) h
  simpa [bsL] using this
theorem bsL_toList (s : ByteArray) : bsL s.data.toList = s := by simp [bsL]
theorem bsL_size (l : List UInt8) : (bsL l).size = l.length := by simp [bsL, ByteArray.size]
theorem bsL_extract (l : List UInt8) (a b : Nat) : (bsL l).extract a b = bsL ((l.take b).drop a) := by
  apply ByteArray.ext
  apply Array.ext'
  rw [ByteArray.data_extract, Array.toList_extract, List.extract_eq_take_drop]
  simp [bsL, List.drop_take]
/-- The last line. -/
theorem last_line : ∀ (n : Nat) (l : List UInt8), l.length = n → ∃ p r, l = p ++ r ∧ (10 : UInt8) ∉ r ∧ (p = [] ∨ ∃ q, p = q ++ [10])
  | 0, l, h => ⟨[], [], by simpa using List.eq_nil_of_length_eq_zero h, by simp, .inl rfl⟩
  | n + 1, l, h => by
    have hne : l ≠ [] := fun e => by rw [e] at h; simp at h
    have hd : l = l.dropLast ++ [l.getLast hne] := (List.dropLast_concat_getLast hne).symm
    obtain ⟨p, r, h1, h2, h3⟩ := last_line n l.dropLast (by rw [List.length_dropLast]; omega)
    by_cases hx : l.getLast hne = 10
    · exact ⟨l, [], by simp, by simp, .inr ⟨l.dropLast, by rw [← hx]; exact hd⟩⟩
    · refine ⟨p, r ++ [l.getLast hne], ?_, ?_, h3⟩
      · rw [← List.append_assoc, ← h1]; exact hd
      · intro hm
        rcases List.mem_append.1 hm with hm | hm
        · exact h2 hm
        · simp at hm; exact hx hm.symm
theorem atOf_line (p r : List UInt8) (h : (10 : UInt8) ∉ r) (hp : p = [] ∨ ∃ q, p = q ++ [10]) : atOf (bsL (p ++ r ++ [10])) = p.length := by
  unfold atOf
  have e : (bsL (p ++ r ++ [10])).extract 0 ((bsL (p ++ r ++ [10])).size - 1) = bsL (p ++ r) := by
    rw [bsL_size, bsL_extract]
    congr 1
    have e0 : (p ++ r ++ [10]).length - 1 = (p ++ r).length := by simp
    rw [e0, List.take_left]
    rfl
  rw [e]
  have hat : ∀ j : Nat, (bsL (p ++ r)).data[j]! = (p ++ r)[j]! := fun j => by
    show (p ++ r).toArray[j]! = _
    rw [Array.getElem!_eq_getD, List.getElem!_eq_getElem?_getD]
    simp
  have hsz : (bsL (p ++ r)).size = p.length + r.length := by rw [bsL_size]; simp
  have hr : ∀ j, p.length ≤ j → j < p.length + r.length → (((bsL (p ++ r)).data[j]!).toNat : Int) ≠ 10 := fun j h1 h2 e2 => by
    rw [hat, List.getElem!_eq_getElem?_getD, List.getElem?_append_right h1, List.getElem?_eq_getElem (by omega)] at e2
    have e3 : r[j - p.length].toNat = 10 := by have e5 : (r[j - p.length].toNat : Int) = 10 := e2; omega
    have e4 : r[j - p.length] = 10 := UInt8.toNat_inj.1 e3
    exact h (by rw [← e4]; exact List.getElem_mem _)
  unfold Lib.lastIndexByte
  rcases Lib.lastIdx_spec (bsL (p ++ r)) 10 (bsL (p ++ r)).size with ⟨h1, h2⟩ | ⟨i, hi, h1, h2, h3⟩
  · rw [h1]
    rcases hp with rfl | ⟨q, rfl⟩
    · rfl
    · exfalso
      refine h2 q.length (by rw [hsz]; simp; omega) ?_
      rw [hat]
      simp
  · rw [h1]
    rcases hp with rfl | ⟨q, rfl⟩
    · exact absurd h2 (hr i (by simp) (by rw [← hsz]; exact hi))
    · have h4 : i < (q ++ [10]).length := by
        rcases Nat.lt_or_ge i (q ++ [10]).length with h5 | h5
        · exact h5
        · exact absurd h2 (hr i h5 (by rw [← hsz]; exact hi))
      have h5 : ¬ i < q.length := fun h6 => by
        refine h3 q.length h6 (by rw [hsz]; simp; omega) ?_
        rw [hat]
        simp
      simp at h4 ⊢
      omega
theorem fromEnd_lines : ∀ (n : Nat) (l : List UInt8), l.length = n → fromEndL (bsL (l ++ [10])) = (zipO 0 (splL 10 l)).reverse := by
  intro n
  induction n using Nat.strongRecOn with
  | ind n ih =>
    intro l hl
    obtain ⟨p, r, rfl, hr, hp⟩ := last_line l.length l rfl
    have hat := atOf_line p r hr hp
    have hsz : (bsL (p ++ r ++ [10])).size = p.length + r.length + 1 := by rw [bsL_size]; simp; omega
    rw [fromEndL_step (by omega), hat, hsz]
    have e1 : (bsL (p ++ r ++ [10])).extract p.length (p.length + r.length + 1 - 1) = bsL r := by
      rw [bsL_extract]
      congr 1
      rw [List.take_append_of_le_length (by simp), List.take_of_length_le (by simp)]
      exact List.drop_left
    have e2 : (bsL (p ++ r ++ [10])).extract 0 p.length = bsL p := by
      rw [bsL_extract, List.append_assoc]
      simp
    rw [e1, e2]
    rcases hp with rfl | ⟨q, rfl⟩
    · rw [fromEndL_none (by rw [bsL_size]; rfl), List.nil_append, splL_free 10 r hr]
      rfl
    · rw [ih q.length (by rw [← hl]; simp) q rfl]
      have e3 : splL 10 (q ++ [10] ++ r) = splL 10 q ++ [r] := by
        rw [List.append_assoc, List.singleton_append, splL_app, splL_free 10 r hr]
      rw [e3, zipO_app, List.reverse_append]
      have e4 : joinL (splL 10 q) = q ++ [10] := splL_join 10 q
      rw [e4]
      simp [zipO]
theorem amongV_iff (acc : List SigR) (x : SigR) : amongV acc x = true ↔ ∃ a ∈ acc, sameKey a x = true := by unfold amongV; rw [List.any_eq_true]
theorem sameKey_symm (x y : SigR) : sameKey x y = sameKey y x := by
  unfold sameKey
  rw [Bool.eq_iff_iff]
  simp
  constructor <;> (rintro ⟨h1, h2⟩; exact ⟨h1.symm, h2.symm⟩)
theorem rdFw_iff : ∀ (L : List ByteArray) (acc S : List SigR), rdFw L acc = some S ↔
    ∃ T, S = acc ++ T ∧ L.map sigP = T.map some ∧ T.Pairwise (fun x y => sameKey x y = false) ∧ ∀ x ∈ T, ∀ a ∈ acc, sameKey a x = false
  | [], acc, S => by
    simp only [rdFw, Option.some.injEq, List.map_nil]
    constructor
    · rintro rfl
      exact ⟨[], by simp, rfl, .nil, by simp⟩
    · rintro ⟨T, rfl, h, -, -⟩
      have : T = [] := by simpa using h.symm
      simp [this]
  | l :: r, acc, S => by
    simp only [rdFw]
    cases hs : sigP l with
    | none =>
      simp only [reduceCtorEq, List.map_cons, hs, false_iff]
      rintro ⟨T, -, h, -, -⟩
      cases T with
      | nil => simp at h
      | cons y t => simp at h
    | some x =>
      simp only []
      by_cases ha : amongV acc x = true
      · rw [if_pos ha]
        simp only [reduceCtorEq, false_iff]
        rintro ⟨T, -, h, -, h4⟩
        obtain ⟨a, ha1, ha2⟩ := (amongV_iff _ _).1 ha
        cases T with
        | nil => simp at h
        | cons y t =>
          simp [hs] at h
          have := h4 y (List.mem_cons_self ..) a ha1
          rw [← h.1, ha2] at this
          cases this
      · rw [if_neg ha, rdFw_iff r]
        have hno : ∀ a ∈ acc, sameKey a x = false := fun a hm => by
          cases hk : sameKey a x with
          | false => rfl
          | true => exact absurd ((amongV_iff _ _).2 ⟨a, hm, hk⟩) ha
        constructor
        · rintro ⟨T, rfl, h1, h2, h3⟩
          refine ⟨x :: T, by simp, by simp [hs, h1], List.pairwise_cons.2 ⟨fun y hy => h3 y hy x (by simp), h2⟩, ?_⟩
          intro y hy a hm
          rcases List.mem_cons.1 hy with rfl | hy
          · exact hno a hm
          · exact h3 y hy a (by simp [hm])
        · rintro ⟨T, rfl, h1, h2, h3⟩
          cases T with
          | nil => simp at h1
          | cons y t =>
            simp only [List.map_cons, hs, List.cons.injEq, Option.some.injEq] at h1
            obtain ⟨rfl, h1⟩ := h1
            refine ⟨t, by simp, h1, (List.pairwise_cons.1 h2).2, ?_⟩
            intro z hz a hm
            rcases List.mem_append.1 hm with hm | hm
            · exact h3 z (List.mem_cons_of_mem _ hz) a hm
            · simp at hm; subst hm; exact (List.pairwise_cons.1 h2).1 z hz
theorem rdFw_rev {L : List ByteArray} {S : List SigR} (h : rdFw L [] = some S) : rdFw L.reverse [] = some S.reverse := by
  obtain ⟨T, e, h1, h2, -⟩ := (rdFw_iff L [] S).1 h
  rw [List.nil_append] at e
  subst e
  refine (rdFw_iff _ _ _).2 ⟨S.reverse, by simp, ?_, ?_, by simp⟩
  · rw [List.map_reverse, List.map_reverse, h1]
  · rw [List.pairwise_reverse]
    exact h2.imp fun {a b} h => by rw [sameKey_symm]; exact h
theorem rdFw_len {L : List ByteArray} {acc S : List SigR} (h : rdFw L acc = some S) : S.length = acc.length + L.length := by
  obtain ⟨T, rfl, h1, -, -⟩ := (rdFw_iff L acc S).1 h
  have := congrArg List.length h1
  simp at this ⊢
  omega
/-- The lines behind the last empty one, from the end on. -/
theorem rdGo_lines (note : ByteArray) (rest : List (Nat × ByteArray)) : ∀ (ls : List (Nat × ByteArray)) (acc : List SigR), (∀ x ∈ ls, x.2.size ≠ 0) → acc.length ≤ 16 →
    rdGo note (ls ++ rest) acc = match rdFw (ls.map (·.2)) acc with
      | some S => if S.length ≤ 16 then rdGo note rest S else none
      | none => none
  | [], acc, _, ha => by simp [rdFw, ha]
  | (a, l) :: r, acc, h, ha => by
    have hl : ¬ l.size = 0 := h (a, l) (List.mem_cons_self ..)
    rw [List.cons_append, rdGo, if_neg hl, List.map_cons, rdFw]
    cases hs : sigP l with
    | none => rfl
    | some x =>
      simp only []
      by_cases h1 : amongV acc x = true
      · rw [if_pos (.inl h1), if_pos h1]
      · rw [if_neg h1]
        by_cases h2 : acc.length = 16
        · rw [if_pos (.inr h2)]
          cases hf : rdFw (r.map (·.2)) (acc ++ [x]) with
          | none => rfl
          | some S =>
            have := rdFw_len hf
            simp at this
            simp only []
            rw [if_neg (by omega)]
        · rw [if_neg (by simp [h1, h2])]
          exact rdGo_lines note rest r (acc ++ [x]) (fun y hy => h y (List.mem_cons_of_mem _ hy)) (by simp; omega)
theorem goesV_nil : goesV ⟨#[]⟩ = false := by unfold goesV; rfl
/-- The last empty line. -/
theorem last_empty : ∀ ls : List (List UInt8), (∀ x ∈ ls, x ≠ []) ∨ ∃ a b, ls = a ++ [] :: b ∧ ∀ x ∈ b, x ≠ []
  | [] => .inl (by simp)
  | x :: r => by
    rcases last_empty r with h | ⟨a, b, rfl, h⟩
    · by_cases hx : x = []
      · exact .inr ⟨[], r, by simp [hx], h⟩
      · exact .inl (by simp [hx]; exact h)
    · exact .inr ⟨x :: a, b, by simp, h⟩
theorem zipO_snd : ∀ (ls : List (List UInt8)) (o : Nat), (zipO o ls).map (·.2) = ls.map bsL
  | [], _ => rfl
  | x :: r, o => by simp [zipO, zipO_snd r]
theorem last_app {a b : List UInt8} (h : (a ++ b).getLast? = some 10) (hb : b ≠ []) : b.getLast? = some 10 := by
  rw [List.getLast?_append, List.getLast?_eq_some_getLast hb] at h
  rw [List.getLast?_eq_some_getLast hb]
  simpa using h
theorem splL_joinL : ∀ b : List (List UInt8), b ≠ [] → (∀ x ∈ b, (10 : UInt8) ∉ x) → ∃ l, joinL b = l ++ [10] ∧ splL 10 l = b
  | [], h, _ => absurd rfl h
  | [x], _, h => ⟨x, by rw [joinL_one], splL_free 10 x (h x (by simp))⟩
  | x :: y :: t, _, h => by
    obtain ⟨l, h1, h2⟩ := splL_joinL (y :: t) (by simp) (fun z hz => h z (List.mem_cons_of_mem _ hz))
    exact ⟨x ++ 10 :: l, by rw [joinL_cons, h1]; simp, by rw [splL_at 10 x l (h x (by simp)), h2]⟩
theorem linesV_join (b : List (List UInt8)) (h : ∀ x ∈ b, (10 : UInt8) ∉ x) : linesV (bsL (joinL b)) = some (b.map bsL) := by
  by_cases hb : b = []
  · subst hb; rfl
  · obtain ⟨l, h1, h2⟩ := splL_joinL b hb h
    rw [h1, linesV_some, h2]
theorem part_one {L : List UInt8} {z : Int} (h : PartIs L z) (u v : List UInt8) (hL : L = u ++ 10 :: v) (hu : u.getLast? = some 10) (hn : NoTwo (10 :: v)) : z = (u.length : Int) := by
  obtain ⟨t, rfl⟩ := List.getLast?_eq_some_iff.1 hu
  rcases h with ⟨-, h⟩ | ⟨u2, v2, h1, h2, h3, rfl⟩
  · rw [hL, List.append_assoc] at h; exact h.no.elim
  · obtain ⟨t2, rfl⟩ := List.getLast?_eq_some_iff.1 h2
    rw [hL] at h1
    rcases Nat.lt_trichotomy (t ++ [10]).length (t2 ++ [10]).length with hlt | heq | hgt
    · exfalso
      obtain ⟨m, hm⟩ : ∃ m, t2 ++ [10] = t ++ [10] ++ 10 :: m := by
        have hp : (t ++ [10]) <+: (t2 ++ [10]) := List.prefix_of_prefix_length_le ⟨10 :: v, rfl⟩ ⟨10 :: v2, h1.symm⟩ (Nat.le_of_lt hlt)
        obtain ⟨m, hm⟩ := hp
        cases m with
        | nil => rw [List.append_nil] at hm; rw [hm] at hlt; omega
        | cons y m' =>
          rw [← hm, List.append_assoc (t ++ [10])] at h1
          have h4 := List.append_cancel_left h1
          injection h4 with h4 _
          exact ⟨m', by rw [← hm, ← h4]⟩
      rw [hm, List.append_assoc (t ++ [10])] at h1
      have h4 := List.append_cancel_left h1
      have h5 : (10 :: m).getLast? = some 10 := by
        have h6 := h2
        rw [hm] at h6
        exact last_app h6 (by simp)
      obtain ⟨m2, hm2⟩ := List.getLast?_eq_some_iff.1 h5
      rw [h4, hm2, List.append_assoc] at hn
      exact hn.no
    · rw [heq]
    · exfalso
      obtain ⟨m, hm⟩ : ∃ m, t ++ [10] = t2 ++ [10] ++ 10 :: m := by
        have hp : (t2 ++ [10]) <+: (t ++ [10]) := List.prefix_of_prefix_length_le ⟨10 :: v2, h1.symm⟩ ⟨10 :: v, rfl⟩ (Nat.le_of_lt hgt)
        obtain ⟨m, hm⟩ := hp
        cases m with
        | nil => rw [List.append_nil] at hm; rw [hm] at hgt; omega
        | cons y m' =>
          rw [← hm, List.append_assoc (t2 ++ [10])] at h1
          have h4 := List.append_cancel_left h1
          injection h4 with h4 _
          exact ⟨m', by rw [← hm, h4]⟩
      rw [hm, List.append_assoc (t2 ++ [10])] at h1
      have h4 := List.append_cancel_left h1
      have h5 : (10 :: m).getLast? = some 10 := by
        have h6 := hu
        rw [hm] at h6
        exact last_app h6 (by simp)
      obtain ⟨m2, hm2⟩ := List.getLast?_eq_some_iff.1 h5
      rw [← h4, hm2, List.append_assoc] at h3
      exact h3.no
theorem part_none {L : List UInt8} {z : Int} (h : PartIs L z) (hn : NoTwo L) : z = -1 := by
  rcases h with ⟨h, -⟩ | ⟨u, v, h1, h2, h3, rfl⟩
  · exact h
  · obtain ⟨t, rfl⟩ := List.getLast?_eq_some_iff.1 h2
    rw [h1, List.append_assoc] at hn
    exact hn.no.elim
/-- THE LAW. -/
theorem read_same (note : ByteArray) (z : Int) (h : PartIs note.data.toList z) : refV note z = readV note := by
  obtain ⟨L, rfl⟩ : ∃ L, note = bsL L := ⟨_, (bsL_toList note).symm⟩
  have hL : (bsL L).data.toList = L := by simp [bsL]
  unfold readV
  rw [hL] at h ⊢
  by_cases hlast : L.getLast? = some 10
  · rw [if_pos hlast]
    obtain ⟨l, rfl⟩ := List.getLast?_eq_some_iff.1 hlast
    rw [fromEnd_lines l.length l rfl]
    have hj : joinL (splL 10 l) = l ++ [10] := splL_join 10 l
    have hfree := splL_mem_free 10 l
    have hsne := splL_ne 10 l
    have hsp : ∀ ls2, splL 10 l = ls2 → True := fun _ _ => trivial
    generalize splL 10 l = ls at *
    rcases last_empty ls with hno | ⟨a, b, rfl, hb⟩
    · have hz : z = -1 := part_none h (by rw [← hj]; exact noTwo_tail (noTwo_lines fun x hx => ⟨hno x hx, hfree x hx⟩))
      subst hz
      have e : refV (bsL (l ++ [10])) (-1) = none := by unfold refV; rw [if_pos (by decide)]
      rw [e]
      have h1 := rdGo_lines (bsL (l ++ [10])) [] (zipO 0 ls).reverse [] (fun x hx => by
        have hm : x.2 ∈ (zipO 0 ls).map (·.2) := List.mem_map_of_mem (List.mem_reverse.1 hx)
        rw [zipO_snd] at hm
        obtain ⟨y, hy, e⟩ := List.mem_map.1 hm
        rw [← e, bsL_size]
        exact fun e => hno y hy (List.eq_nil_of_length_eq_zero e)) (by simp)
      rw [List.append_nil] at h1
      rw [h1]
      split
      · split <;> rfl
      · rfl
    · have hbf : ∀ x ∈ b, x ≠ [] ∧ (10 : UInt8) ∉ x := fun x hx => ⟨hb x hx, hfree x (by simp [hx])⟩
      have e1 : (zipO 0 (a ++ [] :: b)).reverse = (zipO ((joinL a).length + 1) b).reverse ++ (((joinL a).length, bsL []) :: (zipO 0 a).reverse) := by
        rw [zipO_app]
        simp [zipO]
      rw [e1, rdGo_lines _ _ _ [] (fun x hx => by
        have hm : x.2 ∈ (zipO ((joinL a).length + 1) b).map (·.2) := List.mem_map_of_mem (List.mem_reverse.1 hx)
        rw [zipO_snd] at hm
        obtain ⟨y, hy, e⟩ := List.mem_map.1 hm
        rw [← e, bsL_size]
        exact fun e => hb y hy (List.eq_nil_of_length_eq_zero e)) (by simp)]
      rw [List.map_reverse, zipO_snd]
      have hjj : l ++ [10] = joinL a ++ 10 :: joinL b := by
        rw [← hj, joinL_app, joinL_cons]; simp
      have htext : (bsL (l ++ [10])).extract 0 (joinL a).length = bsL (joinL a) := by
        rw [bsL_extract, hjj]; simp
      have hrd : ∀ S, rdGo (bsL (l ++ [10])) (((joinL a).length, bsL []) :: (zipO 0 a).reverse) S = if goesV (bsL (joinL a)) = true ∧ S.length ≠ 0 then some (bsL (joinL a), S.reverse) else none := fun S => by
        rw [rdGo, if_pos (by rw [bsL_size]; rfl), htext]
      rcases List.eq_nil_or_concat a with ha | ⟨a', x, ha⟩
      · subst ha
        have hz : z = -1 := part_none h (by rw [hjj]; exact noTwo_lines hbf)
        subst hz
        have e : refV (bsL (l ++ [10])) (-1) = none := by unfold refV; rw [if_pos (by decide)]
        rw [e]
        have hg : ∀ S : List SigR, ¬ (goesV (bsL (joinL [])) = true ∧ S.length ≠ 0) := fun S hh => by
          have := hh.1
          rw [show bsL (joinL []) = ⟨#[]⟩ from rfl, goesV_nil] at this
          cases this
        split
        · rename_i S _
          split
          · rw [hrd, if_neg (hg S)]
          · rfl
        · rfl
      · have hal : (joinL a).getLast? = some 10 := by rw [ha, List.concat_eq_append, joinL_app, joinL_one, ← List.append_assoc]; exact List.getLast?_concat
        have hz : z = ((joinL a).length : Int) := part_one h _ _ hjj hal (noTwo_lines hbf)
        have hlb : linesV (bsL (joinL b)) = some (b.map bsL) := linesV_join b fun x hx => (hbf x hx).2
        have hrest : (bsL (l ++ [10])).extract ((joinL a).length + 1) (bsL (l ++ [10])).size = bsL (joinL b) := by
          rw [bsL_extract, bsL_size, hjj, List.take_of_length_le (Nat.le_refl _)]
          congr 1
          rw [show (joinL a).length + 1 = (joinL a ++ [10]).length from by simp, show joinL a ++ 10 :: joinL b = joinL a ++ [10] ++ joinL b from by simp]
          exact List.drop_left
        unfold refV
        subst hz
        rw [if_neg (by omega), Int.toNat_natCast, htext, hrest, hlb]
        by_cases hg : goesV (bsL (joinL a)) = true
        · rw [if_pos hg]
          simp only []
          by_cases hlen : (b.map bsL).length = 0 ∨ 16 < (b.map bsL).length
          · rw [if_pos hlen]
            cases hf : rdFw (b.map bsL).reverse [] with
            | none => rfl
            | some S =>
              have h7 := rdFw_len hf
              simp only [List.length_reverse, List.length_nil, Nat.zero_add] at h7
              simp only []
              rcases hlen with hlen | hlen
              · rw [if_pos (by omega), hrd, if_neg (by omega)]
              · rw [if_neg (by omega)]
          · rw [if_neg hlen]
            cases hf : rdFw (b.map bsL).reverse [] with
            | none =>
              cases hf2 : rdFw (b.map bsL) [] with
              | none => rfl
              | some S => rw [rdFw_rev hf2] at hf; cases hf
            | some S =>
              have h7 := rdFw_len hf
              have h8 := rdFw_rev hf
              rw [List.reverse_reverse] at h8
              simp only [List.length_reverse, List.length_nil, Nat.zero_add] at h7
              simp only []
              rw [h8, if_pos (by omega), hrd, if_pos ⟨hg, by omega⟩]
              rfl
        · rw [if_neg hg]
          split
          · split
            · rw [hrd, if_neg (fun h => hg h.1)]
            · rfl
          · rfl
  · rw [if_neg hlast]
    unfold refV
    split
    · rfl
    · rename_i hz
      rcases h with ⟨rfl, -⟩ | ⟨u, v, rfl, hu, hn, rfl⟩
      · exact absurd (by decide) hz
      · split
        · have hrest : (bsL (u ++ 10 :: v)).extract (((u.length : Int)).toNat + 1) (bsL (u ++ 10 :: v)).size = bsL v := by
            rw [bsL_extract, bsL_size, Int.toNat_natCast, List.take_of_length_le (Nat.le_refl _)]
            congr 1
            rw [show u.length + 1 = (u ++ [10]).length from by simp, show u ++ 10 :: v = u ++ [10] ++ v from by simp]
            exact List.drop_left
          rw [hrest]
          have hv : linesV (bsL v) = none := by
            unfold linesV
            have hvl : (bsL v).data.toList = v := by simp [bsL]
            rw [hvl, bsL_size, if_neg, if_neg]
            · intro e
              refine hlast ?_
              have hvn : v ≠ [] := fun e2 => by rw [e2] at e; cases e
              rw [show u ++ 10 :: v = u ++ [10] ++ v from by simp, List.getLast?_append, e]
              rfl
            · intro e
              have := List.eq_nil_of_length_eq_zero e
              subst this
              exact hlast (by simp)
          rw [hv]
        · rfl
end Go.Proofs.YtphoflcilpopgaaGreatDoor

set_option linter.unusedVariables false
set_option linter.unusedSimpArgs false
namespace Go.Proofs.YtphoflcilpopgaaGreatDoor
open Go.RowKit Go.Lib
theorem calls_of_wp_marks {P : Program} {f : FuncId} {fn : Func} {c : Code} {args : Array Value} {w : World} {R : Ending → World → Prop} (n : Nat)
    (hf : P.funcs[f]? = some fn) (hb : fn.body = some c)
    (h : c.wp P (bodyPostM Fence.wide n P fn R) { tmps := args ++ Array.replicate (fn.ntmps - args.size) undef, defers := [] } w) : Calls P f args w R :=
  callsIn_wide.1 (callsIn_of_wp_marks (n := n) hf hb trivial (wpIn_wide.2 h) rfl)
theorem wp_range_cell {P : Program} {α : Type} {g : Operand} {ps : Array Tmp} {assign body : Code} {Q : Exit → Act → World → Prop} {a : Act} {w : World} (n : Nat) (h1 : 3 ≤ n)
    {gf : Nat} {lb : Array Value} (hg : a.eval g = .func (.func gf) #[] lb) (eg : Enters P gf)
    {encs : α → Array Value} {B : Nat} (hB : B < w.heap.size) {xs : List α} (hseq : SeqCell Fence.wide (n - 1) P gf lb encs B xs w) (hps : ∀ x, (encs x).size = ps.size)
    (I : List α → World → Prop) (Ix : Code → List α → World → Prop) (hI : Mild B w.heap.size I) (hIx : ∀ c, Mild B w.heap.size (Ix c)) (h0 : I [] w) (a₁ : α → Act)
    (hassign : ∀ (l : Nat) (x : α) (W : World) (K : Act → World → Prop), K (a₁ x) W →
      assign.wpIn (Fence.wide.inRound l) (n - 1 - 1) P (Exit.then K (fun _ _ _ => False)) { tmps := (ps.zip (encs x)).foldl (fun t (p, v) => t.setIfInBounds p v) a.tmps, defers := [] } W)
    (hbody : ∀ (l : Nat) (pre : List α) (x : α) (W : World), I pre W → pre ++ [x] <+: xs → body.wpIn (Fence.wide.inRound l) (n - 1 - 1) P (cellPost B I Ix (pre ++ [x]) W) (a₁ x) W)
    (hdone : ∀ (D : Nat) (W : World), w.heap.size ≤ D → I xs W → W.heap[D]? = some (.deferred (some [])) → Q .normal { a with defers := { target := .collected D, args := #[] } :: a.defers } W)
    (hstop : ∀ (D : Nat) (c : Code) (pre : List α) (W : World), w.heap.size ≤ D → pre <+: xs → Ix c pre W → W.heap[D]? = some (.deferred (some [])) → c.wp P Q { a with defers := { target := .collected D, args := #[] } :: a.defers } W) :
    (Code.rangeFunc g ps assign body).wp P Q a w :=
  wpIn_wide.1 (wpIn_range_cell (F := Fence.wide) (n := n) rfl (by omega) hg trivial eg hB hseq hps I Ix hI hIx h0 a₁ hassign hbody hdone fun D c pre W h1 h2 h3 h4 => wpIn_wide.2 (hstop D c pre W h1 h2 h3 h4))
/-- An operation that is no defer statement, in a round as everywhere. -/
theorem operIn_of_wp {P : Program} {l n : Nat} {o : Oper} {a : Act} {w : World} {K : Act → World → Prop} {Q : Exit → Act → World → Prop} (hd : ∀ c, o.op ≠ .defer c) (h : o.wp P a w K Q) : o.wpIn (Fence.wide.inRound l) n P a w K Q := by
  refine ⟨fun _ _ => trivial, ?_⟩
  rw [show (Fence.wide.inRound l).round = some l from rfl, Oper.semAt_some l a.eval o hd]
  unfold Oper.wp at h
  revert h
  cases (execOp a.eval o).run P w with
  | ok x w' =>
    cases x with
    | value v => exact id
    | skip => exact id
    | defer d => exact id
    | enter f args => exact fun h => ⟨fun e => by simp [Fence.wide, Fence.inRound] at e, CallsIn.inRound l (callsIn_wide.2 h)⟩
    | row r args =>
      intro h
      refine ⟨fun e => by simp [Fence.wide, Fence.inRound] at e, fun c cs _ => ?_⟩
      obtain ⟨v, w1, h1, h2⟩ := h c cs
      exact ⟨v, w1, h1, stepsIn_wide.2 h2⟩
    | _ => exact fun h => h.elim
  | halt x w' =>
    cases x with
    | panic v => exact id
    | _ => exact fun h => h.elim
/-- The blocks of a call of read: the note, the three results, the text, the signatures. -/
structure RdB (w W : World) (N : Nat) (note r1 : ByteArray) (r2 r3 : Value) (s : ByteArray) (v : Value) (acc : List SigR) : Prop where
  b0 : Blk W N 9 #[.string note]
  b1 : Blk W (N + 1) 9 #[.string r1]
  b2 : Blk W (N + 2) 23 #[r2]
  b3 : Blk W (N + 3) 33 #[r3]
  b4 : Blk W (N + 4) 9 #[.string s]
  b5 : Blk W (N + 5) 23 #[v]
  own : OwnG W (N + 7) v acc
  below : Below N w W
theorem blk_mild {W W' : World} {g B n : Nat} {t : TypeId} {cs : Array Value} {row : Option Nat} (h : Blk W g t cs) (hgB : g ≠ B) (hg : W.grownBy W' row) (hr : ∀ r, row = some r → r = B ∨ (n ≤ r ∧ ∃ o : Obj, W.heap[r]? = some o ∧ o.isCells = false)) : Blk W' g t cs :=
  h.grown hg (fun e => by
    rcases hr g e.symm with h1 | ⟨_, o, ho, hc⟩
    · exact hgB h1
    · rw [show W.heap[g]? = _ from h] at ho
      cases ho
      cases hc)
theorem own_mild {W W' : World} {base B n : Nat} {v : Value} {acc : List SigR} {row : Option Nat} (h : OwnG W base v acc) (hB : B < base) (hg : W.grownBy W' row) (hr : ∀ r, row = some r → r = B ∨ (n ≤ r ∧ ∃ o : Obj, W.heap[r]? = some o ∧ o.isCells = false)) : OwnG W' base v acc := by
  refine World.ownsRow.kept h hg ?_
  rcases h.2 with ⟨rfl, _⟩ | ⟨g, cap, cur, rfl, hb, hh, _⟩
  · exact .inl rfl
  · refine .inr fun e => ?_
    have e' : row = some g := by simpa [Value.ownBlock] using e.symm
    rcases hr g e' with h1 | ⟨_, o, ho, hc⟩
    · omega
    · rw [hh] at ho
      cases ho
      cases hc
theorem below_mild {w W W' : World} {N B n : Nat} {row : Option Nat} (h : Below N w W) (hNB : N ≤ B) (hNn : N ≤ n) (hW : N ≤ W.heap.size) (hg : W.grownBy W' row) (hr : ∀ r, row = some r → r = B ∨ (n ≤ r ∧ ∃ o : Obj, W.heap[r]? = some o ∧ o.isCells = false)) : Below N w W' :=
  h.grown hg hW (fun r e => by
    rcases hr r e with h1 | ⟨h2, _⟩
    · omega
    · omega)
theorem RdB.mild {w W W' : World} {N n : Nat} {note r1 s : ByteArray} {r2 r3 v : Value} {acc : List SigR} (h : RdB w W N note r1 r2 r3 s v acc) {row : Option Nat} (hn : N ≤ n) (hg : W.grownBy W' row) (hr : ∀ r, row = some r → r = N + 6 ∨ (n ≤ r ∧ ∃ o : Obj, W.heap[r]? = some o ∧ o.isCells = false)) : RdB w W' N note r1 r2 r3 s v acc :=
  ⟨blk_mild h.b0 (by omega) hg hr, blk_mild h.b1 (by omega) hg hr, blk_mild h.b2 (by omega) hg hr, blk_mild h.b3 (by omega) hg hr, blk_mild h.b4 (by omega) hg hr, blk_mild h.b5 (by omega) hg hr, own_mild h.own (by omega) hg hr,
    below_mild h.below (by omega) hn (Nat.le_of_lt h.b0.lt) hg hr⟩
theorem RdB.next {w W W' : World} {N : Nat} {note r1 s : ByteArray} {r2 r3 v : Value} {acc : List SigR} (h : RdB w W N note r1 r2 r3 s v acc) (hb : Below W.heap.size W W') : RdB w W' N note r1 r2 r3 s v acc :=
  ⟨h.b0.below hb h.b0.lt, h.b1.below hb h.b1.lt, h.b2.below hb h.b2.lt, h.b3.below hb h.b3.lt, h.b4.below hb h.b4.lt, h.b5.below hb h.b5.lt, h.own.below hb, h.below.trans (hb.mono (Nat.le_of_lt h.b0.lt))⟩
theorem OwnG.far {w : World} {base : Nat} {v : Value} {acc : List SigR} (h : OwnG w base v acc) {p : Addr} (hp : p.block < base) (u : Value) : OwnG (w.setCell p u) base v acc := by
  refine World.ownsRow.kept h (row := some p.block) ⟨rfl, rfl, rfl, by simp [World.setCell], fun i _ hne => Below.heap_setCell w p u i (fun e => hne (by rw [e]))⟩ ?_
  rcases h.2 with ⟨rfl, _⟩ | ⟨g, cap, cur, rfl, hb, hh, _⟩
  · exact .inl rfl
  · refine .inr fun e => ?_
    have e' : g = p.block := by simpa [Value.ownBlock] using e
    omega
theorem RdB.text {w W : World} {N : Nat} {note r1 s : ByteArray} {r2 r3 v : Value} {acc : List SigR} (h : RdB w W N note r1 r2 r3 s v acc) (s' : ByteArray) : RdB w (W.setCell ⟨N + 4, 0, none⟩ (.string s')) N note r1 r2 r3 s' v acc :=
  ⟨h.b0.far (by simp) _, h.b1.far (by simp) _, h.b2.far (by simp) _, h.b3.far (by simp) _, h.b4.set_ 0 _, h.b5.far (by simp) _, h.own.far (by simp) _, h.below.setCell (by simp) _⟩
theorem RdB.sigs {w W : World} {N : Nat} {note r1 s : ByteArray} {r2 r3 v : Value} {acc acc' : List SigR} (h : RdB w W N note r1 r2 r3 s v acc) (v' : Value) (h' : OwnG W (N + 7) v' acc') : RdB w (W.setCell ⟨N + 5, 0, none⟩ v') N note r1 r2 r3 s v' acc' :=
  ⟨h.b0.far (by simp) _, h.b1.far (by simp) _, h.b2.far (by simp) _, h.b3.far (by simp) _, h.b4.far (by simp) _, h.b5.set_ 0 _, h'.far (by simp) _, h.below.setCell (by simp) _⟩
theorem RdB.res {w W : World} {N : Nat} {note r1 s : ByteArray} {r2 r3 v : Value} {acc : List SigR} (h : RdB w W N note r1 r2 r3 s v acc) (r1' : ByteArray) (r2' r3' : Value) :
    RdB w (((W.setCell ⟨N + 1, 0, none⟩ (.string r1')).setCell ⟨N + 2, 0, none⟩ r2').setCell ⟨N + 3, 0, none⟩ r3') N note r1' r2' r3' s v acc :=
  ⟨((h.b0.far (by simp) _).far (by simp) _).far (by simp) _, ((h.b1.set_ 0 _).far (by simp) _).far (by simp) _, ((h.b2.far (by simp) _).set_ 0 _).far (by simp) _, ((h.b3.far (by simp) _).far (by simp) _).set_ 0 _,
    ((h.b4.far (by simp) _).far (by simp) _).far (by simp) _, ((h.b5.far (by simp) _).far (by simp) _).far (by simp) _, ((h.own.far (by simp) _).far (by simp) _).far (by simp) _, ((h.below.setCell (by simp) _).setCell (by simp) _).setCell (by simp) _⟩
theorem keeps_next {W W' : World} (hb : Below W.heap.size W W') : KeepsOthers W W' := ⟨hb.size, fun k o h _ => (hb.block k (Array.getElem?_eq_some_iff.1 h).1).trans h⟩
theorem keeps_res (W : World) (N : Nat) (a b c : Value) : KeepsOthers W (((W.setCell ⟨N + 1, 0, none⟩ a).setCell ⟨N + 2, 0, none⟩ b).setCell ⟨N + 3, 0, none⟩ c) :=
  ((KeepsOthers.setCell _ _ _).trans (KeepsOthers.setCell _ _ _)).trans (KeepsOthers.setCell _ _ _)
theorem own_block {w : World} {base : Nat} {v : Value} {acc : List SigR} (h : OwnG w base v acc) : ∀ k, v.ownBlock = some k → base ≤ k ∧ k < w.heap.size := h.lt
/-- sigs = append(sigs, x). -/
theorem RdB.app {w W W' : World} {N : Nat} {note r1 s : ByteArray} {r2 r3 v v' : Value} {acc acc' : List SigR} (h : RdB w W N note r1 r2 r3 s v acc) {o : Obj} (hg : (W.alloc o).grownBy W' v.ownBlock) (h' : OwnG W' (N + 7) v' acc') :
    Blk W' (N + 5) 23 #[v] ∧ RdB w (W'.setCell ⟨N + 5, 0, none⟩ v') N note r1 r2 r3 s v' acc' ∧ KeepsOthers W (W'.setCell ⟨N + 5, 0, none⟩ v') := by
  have hne : ∀ g, g < N + 7 → some g ≠ v.ownBlock := fun g hgl e => by have := (h.own.lt g e.symm).1; omega
  have hb : Below N w W' := (h.below.alloc (Nat.le_of_lt h.b0.lt) o).grown hg (by have := h.b0.lt; simp; omega) (fun r e => by have := (h.own.lt r e).1; omega)
  have h5 : Blk W' (N + 5) 23 #[v] := (h.b5.alloc o).grown hg (hne _ (by omega))
  refine ⟨h5, ⟨((h.b0.alloc o).grown hg (hne _ (by omega))).far (by simp) _, ((h.b1.alloc o).grown hg (hne _ (by omega))).far (by simp) _, ((h.b2.alloc o).grown hg (hne _ (by omega))).far (by simp) _, ((h.b3.alloc o).grown hg (hne _ (by omega))).far (by simp) _,
    ((h.b4.alloc o).grown hg (hne _ (by omega))).far (by simp) _, h5.set_ 0 _, h'.far (by simp) _, hb.setCell (by simp) _⟩, ?_⟩
  refine ((KeepsOthers.alloc W o).trans (KeepsOthers.of_grownBy hg fun j o' ej hj => ?_)).trans (KeepsOthers.setCell _ _ _)
  rcases (h.own.alloc o).2 with ⟨rfl, _⟩ | ⟨g, cap, cur, rfl, _, hgb, _⟩
  · simp [Value.ownBlock] at ej
  · obtain rfl : g = j := by simpa [Value.ownBlock] using ej
    rw [hgb] at hj; cases hj; rfl
/-- append(v, x) in a round, x one signature in a new block of its own. -/
theorem wpListIn_appG1 {l n : Nat} {ops : Array Oper} {rest : List Oper} {o : Oper} {a : Act} {Q : Exit → Act → World → Prop} (w : World) (hgd : o.guard = none) (s x : Operand)
    (ho : o.op = .call { callee := .builtin .append, args := #[s, x], argTypes := #[23, 23] })
    {base : Nat} {v : Value} {xs : List SigR} (hown : OwnG w base v xs) (hs : a.eval s = v) {y : SigR} (hx : a.eval x = .slice (some ⟨w.heap.size, 0, none⟩) 1 1)
    (h47 : xs.length + 1 ≤ 1099511627776) (hbase : base ≤ w.heap.size)
    (h : ∀ v' w', OwnG w' base v' (xs ++ [y]) → (w.alloc (.cells #[.string y.nm, .string y.id, .string y.mc] 43)).grownBy w' v.ownBlock → (v'.ownBlock = v.ownBlock ∨ v'.ownBlock = some (w.heap.size + 1)) → wpListIn (Fence.wide.inRound l) n Tryz.prog ops Q rest (a.put o.dst v') w') :
    wpListIn (Fence.wide.inRound l) n Tryz.prog ops Q (o :: rest) a (w.alloc (.cells #[.string y.nm, .string y.id, .string y.mc] 43)) := by
  refine wpListIn_plain hgd fun K hK => operIn_of_wp (by rw [ho]; intro c e; cases e) ?_
  obtain ⟨i, hi, hz, hs1, hb1⟩ := info_parts sigInfo
  have hrd : Reads (w.alloc (.cells #[.string y.nm, .string y.id, .string y.mc] 43)) (w.heap.size + 1) 3 (some ⟨w.heap.size, 0, none⟩) 1 y.cs := by
    refine ⟨rfl, fun _ => ⟨_, rfl, Nat.lt_succ_self _, fun j u hu => ?_⟩⟩
    have hadd : (⟨w.heap.size, 0, none⟩ : Addr).add j = ⟨w.heap.size, j, none⟩ := by unfold Addr.add; split <;> simp_all
    rw [hadd, (Blk.new w 43 _).cell j, ← hu]
    simp [SigR.cs]
  refine wp_append_any (w := w.alloc _) s x 23 ho base 43 i _ 3 48 Tryz.underlying23 hi hz hs1 hb1 rfl (by decide) v xs.length (sigCells xs) hs (hown.alloc _) (w.heap.size + 1) _ 1 1 y.cs hx hrd ?_ ?_ ?_ (by simp; omega) ?_
  · intro u hu
    simp [SigR.cs] at hu
    rcases hu with rfl | rfl | rfl <;> rfl
  · simp only [maxLen]; omega
  · omega
  · intro v' w' h1 h2 h3
    refine hK _ _ (h v' w' ?_ h2 (by simpa using h3))
    unfold OwnG
    rw [List.length_append]
    have e : sigCells (xs ++ [y]) = sigCells xs ++ y.cs := by unfold sigCells; rw [List.flatMap_append]; simp
    rw [e]
    exact h1
theorem keeps_own {W W' : World} {base : Nat} {v : Value} {acc : List SigR} (h : OwnG W base v acc) (hg : W.grownBy W' v.ownBlock) : KeepsOthers W W' :=
  KeepsOthers.of_grownBy hg fun j o' ej hj => by
    rcases h.2 with ⟨rfl, _⟩ | ⟨g, cap, cur, rfl, _, hgb, _⟩
    · simp [Value.ownBlock] at ej
    · obtain rfl : g = j := by simpa [Value.ownBlock] using ej
      rw [hgb] at hj; cases hj; rfl
theorem RdB.rev {w W W' : World} {N : Nat} {note r1 s : ByteArray} {r2 r3 v : Value} {acc acc' : List SigR} (h : RdB w W N note r1 r2 r3 s v acc) (hg : W.grownBy W' v.ownBlock) (h' : OwnG W' (N + 7) v acc') : RdB w W' N note r1 r2 r3 s v acc' := by
  have hne : ∀ g, g < N + 7 → some g ≠ v.ownBlock := fun g hgl e => by have := (h.own.lt g e.symm).1; omega
  exact ⟨h.b0.grown hg (hne _ (by omega)), h.b1.grown hg (hne _ (by omega)), h.b2.grown hg (hne _ (by omega)), h.b3.grown hg (hne _ (by omega)), h.b4.grown hg (hne _ (by omega)), h.b5.grown hg (hne _ (by omega)), h',
    h.below.grown hg (Nat.le_of_lt h.b0.lt) (fun r e => by have := (h.own.lt r e).1; omega)⟩
theorem RdB.drew {w W : World} {N : Nat} {note r1 s : ByteArray} {r2 r3 v : Value} {acc : List SigR} (h : RdB w W N note r1 r2 r3 s v acc) : RdB w W.drew N note r1 r2 r3 s v acc :=
  ⟨h.b0.drew, h.b1.drew, h.b2.drew, h.b3.drew, h.b4.drew, h.b5.drew, h.own.drew, h.below.drew⟩
theorem Blk.new_ {W : World} {g : Nat} (h : W.heap.size = g) (t : TypeId) (cs : Array Value) : Blk (W.alloc (.cells cs t)) g t cs := by subst h; exact Blk.new W t cs
theorem putObj_cell {W : World} {g D : Nat} {t : TypeId} {x : Value} (h : Blk W g t #[x]) (hD : g ≠ D) (o : Obj) : Blk (W.putObj D o) g t #[x] := (World.putObj_heap_other hD).trans h
theorem results3 {W : World} {N : Nat} {r1 : ByteArray} {r2 r3 : Value} {fn : Func} {tmps : Array Value}
    (hfn : fn.results = #[.cell 2 9, .cell 3 23, .cell 4 33]) (b1 : Blk W (N + 1) 9 #[.string r1]) (b2 : Blk W (N + 2) 23 #[r2]) (b3 : Blk W (N + 3) 33 #[r3])
    (h2 : tmps.getD 2 undef = .pointer (some ⟨N + 1, 0, none⟩)) (h3 : tmps.getD 3 undef = .pointer (some ⟨N + 2, 0, none⟩)) (h4 : tmps.getD 4 undef = .pointer (some ⟨N + 3, 0, none⟩))
    (hs2 : ∃ A m c, r2 = .slice A m c) (hs3 : ∃ z, r3 = .int .i64 z) : (results fn tmps).run Tryz.prog W = .ok (.tuple #[.string r1, r2, r3]) W := by
  obtain ⟨A, m, c, rfl⟩ := hs2
  obtain ⟨z, rfl⟩ := hs3
  have c1 := b1.cell 0; have c2 := b2.cell 0; have c3 := b3.cell 0
  simp only [List.getElem?_toArray, List.getElem?_cons_zero] at c1 c2 c3
  rw [Array.getD_eq_getD_getElem?] at h2 h3 h4
  simp [results, hfn, h2, h3, h4, go_sem, c1, c2, c3, Tryz.underlying9, Tryz.underlying23, Tryz.underlying33]
/-- The end of note.read: the results lie in cells. -/
theorem read_ret {w W : World} {D n : Nat} {note r1 s : ByteArray} {r2 r3 v : Value} {acc : List SigR} {R : Ending → World → Prop} {fn : Func} {tmps : Array Value}
    (hfn : fn.results = #[.cell 2 9, .cell 3 23, .cell 4 33]) (N : Nat) (h : RdB w W N note r1 r2 r3 s v acc) (hK : W.heap[D]? = some (.deferred (some []))) (hD : N + 6 < D)
    (h2 : tmps.getD 2 undef = .pointer (some ⟨N + 1, 0, none⟩)) (h3 : tmps.getD 3 undef = .pointer (some ⟨N + 2, 0, none⟩)) (h4 : tmps.getD 4 undef = .pointer (some ⟨N + 3, 0, none⟩))
    (hs2 : ∃ A m c, r2 = .slice A m c) (hs3 : ∃ z, r3 = .int .i64 z)
    (hR : ∀ W', RdB w W' N note r1 r2 r3 s v acc → R (.returned (.tuple #[.string r1, r2, r3])) W') :
    bodyPostM Fence.wide n Tryz.prog fn R .ret { tmps := tmps, defers := [{ target := .collected D, args := #[] }] } W := by
  have hk := grownBy_putObj' W D (.deferred none)
  have hP : RdB w (W.putObj D (.deferred none)) N note r1 r2 r3 s v acc := h.mild (n := N) (Nat.le_refl _) hk (fun r e => by cases e; exact .inr ⟨by omega, _, hK, rfl⟩)
  refine ⟨by simp, .inl ⟨_, _, rfl, run_takeDeferred hK, ?_⟩⟩
  exact ⟨.tuple #[.string r1, r2, r3], results3 hfn hP.b1 hP.b2 hP.b3 h2 h3 h4 hs2 hs3, hR _ hP⟩
theorem rangeCell_start {B : Nat} {w w' : World} {t : TypeId} {cs : Array Value} (h : Blk w B t cs) : B < w.heap.size := h.lt
end Go.Proofs.YtphoflcilpopgaaGreatDoor

set_option linter.unusedVariables false
set_option linter.unusedSimpArgs false
namespace Go.Proofs.YtphoflcilpopgaaGreatDoor
open Go.RowKit Go.Lib
attribute [local go_sem] Oper.semAt_some
theorem fromEnd_any (s : ByteArray) (w : World) :
    Calls Tryz.prog 44 #[.string s] w fun e w' => e = .returned (.func (.func 69) #[] #[.pointer (some ⟨w.heap.size, 0, none⟩)]) ∧ w.alloc (.cells #[.string s] 9) = w' := by
  go_enter Tryz.func44, Tryz.ntmps44
  go_wp2_with fail
  go_ret
  exact ⟨rfl, rfl⟩
theorem empty_of {s : ByteArray} (h : s.size = 0) : s.toList.isEmpty = true := by
  have h2 : s.data.toList.length = 0 := by rw [Array.length_toList]; exact h
  rw [ByteArray.toList_eq, List.eq_nil_of_length_eq_zero h2]; rfl
theorem empty_no {s : ByteArray} (h : 0 < s.size) : s.toList.isEmpty = false := by
  have h2 : s.data.toList.length = s.size := Array.length_toList
  rw [ByteArray.toList_eq]
  cases hx : s.data.toList with
  | nil => rw [hx] at h2; simp at h2; omega
  | cons a r => rfl
theorem fromEndF_mem : ∀ (f : Nat) (s : ByteArray) (x : Nat × ByteArray), x ∈ fromEndF f s → x.1 ≤ s.size ∧ x.2.size ≤ s.size
  | 0, s, x, h => by simp [fromEndF] at h
  | f + 1, s, x, h => by
    rw [fromEndF] at h
    split at h
    · simp at h
    · rename_i h0
      have ha := (atOf_int s (Nat.pos_of_ne_zero h0)).2
      rcases List.mem_cons.1 h with rfl | h
      · refine ⟨by simp only; omega, ?_⟩
        simp only [ByteArray.size_extract]; omega
      · have h1 := fromEndF_mem f _ x h
        have h2 : (s.extract 0 (atOf s)).size = atOf s := by rw [ByteArray.size_extract]; omega
        omega
theorem fromEndL_mem {s : ByteArray} {x : Nat × ByteArray} (h : x ∈ fromEndL s) : x.1 ≤ s.size ∧ x.2.size ≤ s.size := fromEndF_mem _ _ _ h
/-- What read answers. -/
def ReadR (N : Nat) (note : ByteArray) (e : Ending) (w' : World) : Prop :=
  (65536 < note.size ∧ e = .returned (.tuple #[.string ⟨#[]⟩, .slice none 0 0, .int .i64 121])) ∨
  (note.size ≤ 65536 ∧ readV note = none ∧ e = .returned (.tuple #[.string ⟨#[]⟩, .slice none 0 0, .int .i64 200])) ∨
  (note.size ≤ 65536 ∧ ∃ t S v, readV note = some (t, S) ∧ e = .returned (.tuple #[.string t, v, .int .i64 0]) ∧ OwnG w' N v S)
/-- Between two rounds. -/
def RdI (w : World) (note : ByteArray) (pre : List (Nat × ByteArray)) (W : World) : Prop :=
  ∃ (acc : List SigR) (v : Value), RdB w W w.heap.size note ⟨#[]⟩ (.slice none 0 0) (.int .i64 0) ⟨#[]⟩ v acc ∧ w.heap.size + 6 < W.heap.size ∧ acc.length ≤ 16 ∧ ∀ rest, pre ++ rest = fromEndL note → rdGo note (fromEndL note) [] = rdGo note rest acc
/-- Behind a jump. -/
def RdX (w : World) (note : ByteArray) (c : Code) (pre : List (Nat × ByteArray)) (W : World) : Prop :=
  match c with
  | .ret => ∃ (acc : List SigR) (v : Value), RdB w W w.heap.size note ⟨#[]⟩ (.slice none 0 0) (.int .i64 200) ⟨#[]⟩ v acc ∧ rdGo note (fromEndL note) [] = none
  | .exit id => id = 0 ∧ ∃ (acc : List SigR) (v : Value) (a : Nat), a ≤ note.size ∧ RdB w W w.heap.size note ⟨#[]⟩ (.slice none 0 0) (.int .i64 0) (note.extract 0 a) v acc ∧ acc.length ≤ 16 ∧
      rdGo note (fromEndL note) [] = if goesV (note.extract 0 a) = true ∧ acc.length ≠ 0 then some (note.extract 0 a, acc.reverse) else none
  | _ => False
theorem RdI.mild (w : World) (note : ByteArray) (n : Nat) (hn : w.heap.size ≤ n) : Mild (w.heap.size + 6) n (RdI w note) := by
  rintro s W W' row ⟨acc, v, h1, h0, h2, h3⟩ hg hr
  exact ⟨acc, v, h1.mild hn hg hr, Nat.lt_of_lt_of_le h0 hg.size, h2, h3⟩
theorem RdX.mild (w : World) (note : ByteArray) (n : Nat) (hn : w.heap.size ≤ n) (c : Code) : Mild (w.heap.size + 6) n (RdX w note c) := by
  intro s W W' row h hg hr
  unfold RdX at h ⊢
  cases c with
  | ret =>
    obtain ⟨acc, v, h1, h2⟩ := h
    exact ⟨acc, v, h1.mild hn hg hr, h2⟩
  | exit id =>
    obtain ⟨h0, acc, v, a, ha, h1, h2, h3⟩ := h
    exact ⟨h0, acc, v, a, ha, h1.mild hn hg hr, h2, h3⟩
  | _ => exact h.elim
set_option maxRecDepth 100000 in
set_option maxHeartbeats 4000000 in
theorem read_main (note : ByteArray) (w : World) (h6 : note.size ≤ 65536) (hnl : note.data.toList.getLast? = some 10) (hM : MaxOk w) (hT : Lib.Utf8Tabs 5 6 w) :
    Calls Tryz.prog 19 #[.string note] w fun e w' => ReadR w.heap.size note e w' ∧ Below w.heap.size w w' := by
  refine calls_of_wp_marks 3 Tryz.func19 rfl ?_
  simp only [Tryz.ntmps19, List.size_toArray, List.length_cons, List.length_nil, Nat.reduceAdd, Nat.reduceSub, Array.replicate_succ, Array.replicate_zero, List.push_toArray, List.append_toArray, List.nil_append, List.cons_append]
  have i6 : ¬ (65536 : Int) < (note.size : Int) := by omega
  have hx : Hid (Lib.hasSuffix note.data.toList [10] = true) := by rw [Hid, hasSuffix_nl, decide_eq_true hnl]
  have HM := hide hM; have HT := hide hT; have HNL := hide hnl; clear hM hT hnl
  have hsu := fun W => Tryz.strings_HasSuffix note ⟨#[10]⟩ W (by omega)
  have hfe := fun W => fromEnd_any note W
  have HSU := hide hsu; have HFE := hide hfe; clear hsu hfe
  go_wp2_with fail
  refine ((unhide HSU) _).mono ?_
  rintro e w1 ⟨rfl, rfl⟩
  rw [hx.out]
  go_wp2_with fail
  refine ((unhide HFE) _).mono ?_
  rintro e w2 ⟨rfl, hw2⟩
  have hst : RdB w w2 w.heap.size note ⟨#[]⟩ (.slice none 0 0) (.int .i64 0) ⟨#[]⟩ (.slice none 0 0) [] := by
    rw [← hw2]
    exact ⟨((((((Blk.new_ (by simp) _ _).alloc _).alloc _).alloc _).alloc _).alloc _).alloc _, (((((Blk.new_ (by simp) _ _).alloc _).alloc _).alloc _).alloc _).alloc _, ((((Blk.new_ (by simp) _ _).alloc _).alloc _).alloc _).alloc _,
      (((Blk.new_ (by simp) _ _).alloc _).alloc _).alloc _, ((Blk.new_ (by simp) _ _).alloc _).alloc _, (Blk.new_ (by simp) _ _).alloc _, OwnG.nil _ _,
      (((((((Below.refl _ _).alloc (Nat.le_refl _) _).alloc (by simp) _).alloc (by simp; omega) _).alloc (by simp; omega) _).alloc (by simp; omega) _).alloc (by simp; omega) _).alloc (by simp; omega) _⟩
  have hB6 : Blk w2 (w.heap.size + 6) 9 #[.string note] := by
    rw [← hw2]
    exact Blk.new_ (by simp) _ _
  have hsz : w2.heap.size = w.heap.size + 7 := by rw [← hw2]; simp
  have HST := hide (And.intro hst (And.intro hB6 hsz)); clear hst hB6 hsz hw2
  go_wp2_with fail
  simp only [Nat.add_assoc, Nat.reduceAdd]
  refine wp_range_cell 3 (by omega) (gf := 69) (lb := #[.pointer (some ⟨w.heap.size + 6, 0, none⟩)]) rfl (enters_of Tryz.func69 (by kernel_rfl) rfl) (B := w.heap.size + 6) (unhide HST).2.1.lt
    (fromEnd_cell 2 (by omega) (w.heap.size + 6) note w2 (by omega) (unhide HST).2.1) (fun x => rfl) (RdI w note) (RdX w note) (RdI.mild w note _ (by have := (unhide HST).2.2; omega)) (RdX.mild w note _ (by have := (unhide HST).2.2; omega))
    ⟨[], _, (unhide HST).1, by have := (unhide HST).2.2; omega, by simp, fun rest h => by rw [List.nil_append] at h; rw [h]⟩ ?a1 ?assign ?body ?done ?stop
  case assign =>
    intro l x W K hK
    dsimp only [encLine]
    gi_wp2
    exact hK
  case body =>
    rintro l pre ⟨at_, line⟩ W ⟨acc, v, hB, hWz, hl, hI⟩ hpre
    obtain ⟨A, cp, rfl⟩ := hB.own.slice
    obtain ⟨b0, b1, b2, b3, b4, b5, hO, hb⟩ := id hB
    have c0 := b0.cell 0; have c1 := b1.cell 0; have c2 := b2.cell 0; have c3 := b3.cell 0; have c4 := b4.cell 0; have c5 := b5.cell 0
    have f0 := b0.frozen 0; have f1 := b1.frozen 0; have f2 := b2.frozen 0; have f3 := b3.frozen 0; have f4 := b4.frozen 0; have f5 := b5.frozen 0
    simp only [List.getElem?_toArray, List.getElem?_cons_zero] at c0 c1 c2 c3 c4 c5
    have HX := hide (And.intro hB hI); clear hB hI b0 b1 b2 b3 b4 b5 hO hb
    dsimp only
    have hmem := fromEndL_mem (hpre.subset (List.mem_append_right pre (List.mem_singleton.2 rfl)))
    obtain ⟨hat, hls⟩ : at_ ≤ note.size ∧ line.size ≤ note.size := hmem
    obtain ⟨rest, hrest⟩ := hpre
    have hgo := Lib.hid ((unhide HX).2 ((at_, line) :: rest) (by rw [← hrest]; simp))
    have HR := hide hrest; clear hrest
    rcases Nat.eq_zero_or_pos line.size with hz | hz
    · have hie := empty_of hz
      have hres : Hid (rdGo note (fromEndL note) [] = if goesV (note.extract 0 at_) = true ∧ acc.length ≠ 0 then some (note.extract 0 at_, acc.reverse) else none) := by rw [Hid, hgo.out, rdGo, if_pos hz]
      gi_wp2_with fail
      refine ⟨?_, ?_⟩
      · exact KeepsOthers.setCell _ _ _
      · exact ⟨rfl, acc, _, at_, hat, (unhide HX).1.text _, hl, hres.out⟩
    · have hie := empty_no hz
      have hsg := fun W (h : MaxOk W) => signed_any line W (by omega) h
      have HSG := hide hsg; clear hsg
      have hMW : MaxOk W := (unhide HM).below (unhide HX).1.below (unhide HM).lt
      have HMW := hide hMW; clear hMW
      cases hsp : sigP line with
      | none =>
        have hres : Hid (rdGo note (fromEndL note) [] = none) := by rw [Hid, hgo.out, rdGo, if_neg (by omega), hsp]
        rw [sigA_none hsp] at HSG
        unfold sigV noSig at HSG
        dsimp only at HSG
        clear hsp hgo
        gi_wp2_with fail
        refine ⟨trivial, (CallsIn.inRound l (callsIn_wide.2 ((unhide HSG) W (unhide HMW)))).mono ?_⟩
        rintro e w3 ⟨rfl, hb3⟩
        have hb4 : Below W.heap.size W (w3.alloc (.cells #[.string ⟨#[]⟩, .string ⟨#[]⟩, .string ⟨#[]⟩] 43)) := hb3.alloc hb3.size _
        have hB4 := (unhide HX).1.next hb4
        have H4 := hide (And.intro hb4 hB4); clear hb4 hB4 hb3
        clear c0 c1 c2 c3 c4 c5 f0 f1 f2 f3 f4 f5
        gi_wp2_with fail
        refine ⟨trivial, ?_⟩
        generalize w3.heap.size = g9 at *
        generalize (w3.alloc (.cells #[.string ⟨#[]⟩, .string ⟨#[]⟩, .string ⟨#[]⟩] 43)) = w4 at *
        obtain ⟨b0, b1, b2, b3, b4, b5, hO, hb⟩ := id (unhide H4).2
        have c0 := b0.cell 0; have c1 := b1.cell 0; have c2 := b2.cell 0; have c3 := b3.cell 0; have c4 := b4.cell 0; have c5 := b5.cell 0
        have f0 := b0.frozen 0; have f1 := b1.frozen 0; have f2 := b2.frozen 0; have f3 := b3.frozen 0; have f4 := b4.frozen 0; have f5 := b5.frozen 0
        simp only [List.getElem?_toArray, List.getElem?_cons_zero] at c0 c1 c2 c3 c4 c5
        clear b0 b1 b2 b3 b4 b5 hO hb
        gi_wp2_with fail
        refine ⟨?_, ?_⟩
        · exact (keeps_next (unhide H4).1).trans (keeps_res _ w.heap.size _ _ _)
        · exact ⟨acc, _, (unhide H4).2.res _ _ _, hres.out⟩
      | some x =>
        have hgo2 : Hid (rdGo note (fromEndL note) [] = if amongV acc x = true ∨ acc.length = 16 then none else rdGo note rest (acc ++ [x])) := by rw [Hid, hgo.out, rdGo, if_neg (by omega), hsp]
        rw [sigA_some hsp] at HSG
        obtain ⟨xn, xi, xm⟩ := x
        unfold sigV at HSG
        dsimp only at HSG
        clear hsp hgo
        gi_wp2_with fail
        refine ⟨trivial, (CallsIn.inRound l (callsIn_wide.2 ((unhide HSG) W (unhide HMW)))).mono ?_⟩
        rintro e w3 ⟨rfl, hb3⟩
        have hb4 : Below W.heap.size W (w3.alloc (.cells #[.string xn, .string xi, .string xm] 43)) := hb3.alloc hb3.size _
        have hN4 : Blk (w3.alloc (.cells #[.string xn, .string xi, .string xm] 43)) w3.heap.size 43 #[.string xn, .string xi, .string xm] := Blk.new _ _ _
        have hB4 := (unhide HX).1.next hb4
        have hlt : w.heap.size + 5 < w3.heap.size := by have := (unhide HX).1.b5.lt; have := hb3.size; omega
        have HN4 := hide hN4
        have H4 := hide (And.intro hb4 (And.intro hB4 hlt)); clear hb4 hB4 hb3 hN4
        have c5' : w3.cell? ⟨w.heap.size + 5, 0, none⟩ = some (.slice A acc.length cp) := by
          have h5 := (unhide H4).2.1.b5.cell 0
          rw [World.cell?_alloc_lt _ _ _ (unhide H4).2.2] at h5
          exact h5
        have ham := fun W (h : OwnG W (w.heap.size + 7) (.slice A acc.length cp) acc) => among_any (.slice A acc.length cp) acc ⟨xn, xi, xm⟩ (w.heap.size + 7) W (by omega) h
        unfold sigV at ham
        have HAM := hide ham; clear ham
        clear c0 c1 c2 c3 c4 c5 f0 f1 f2 f3 f4 f5
        gi_wp2_with fail
        clear c5'
        generalize w3.heap.size = g9 at *
        generalize (w3.alloc (.cells #[.string xn, .string xi, .string xm] 43)) = w4 at *
        refine ⟨trivial, (CallsIn.inRound l (callsIn_wide.2 ((unhide HAM) w4 (unhide H4).2.1.own))).mono ?_⟩
        rintro e w5 ⟨rfl, hb5⟩
        have hb5' := (unhide H4).1.trans (hb5.mono (unhide H4).1.size)
        have hB5 := (unhide H4).2.1.next hb5
        have hN5 := (unhide HN4).below hb5 (unhide HN4).lt
        have k0 := hN5.cell 0; have k1 := hN5.cell 1; have k2 := hN5.cell 2
        simp only [List.getElem?_toArray, List.getElem?_cons_zero, List.getElem?_cons_succ] at k0 k1 k2
        have hs5 : w.heap.size + 7 ≤ w5.heap.size := by have h1 := hN5.lt; have h2 := (unhide H4).2.2; omega
        have H5 := hide (And.intro hb5' hB5); clear hb5 hb5' hB5 hN5 HN4 H4
        obtain ⟨b0, b1, b2, b3, b4, b5, hO, hb⟩ := id (unhide H5).2
        have c0 := b0.cell 0; have c1 := b1.cell 0; have c2 := b2.cell 0; have c3 := b3.cell 0; have c4 := b4.cell 0; have c5 := b5.cell 0
        have f0 := b0.frozen 0; have f1 := b1.frozen 0; have f2 := b2.frozen 0; have f3 := b3.frozen 0; have f4 := b4.frozen 0; have f5 := b5.frozen 0
        simp only [List.getElem?_toArray, List.getElem?_cons_zero] at c0 c1 c2 c3 c4 c5
        clear b0 b1 b2 b3 b4 b5 hO hb
        by_cases ham : amongV acc ⟨xn, xi, xm⟩ = true
        · have hres : Hid (rdGo note (fromEndL note) [] = none) := by rw [Hid, hgo2.out, if_pos (.inl ham)]
          rw [ham]
          clear ham hgo2
          gi_wp2_with fail
          refine ⟨?_, ?_⟩
          · exact (keeps_next (unhide H5).1).trans (keeps_res _ w.heap.size _ _ _)
          · exact ⟨acc, _, (unhide H5).2.res _ _ _, hres.out⟩
        · have ham' : amongV acc ⟨xn, xi, xm⟩ = false := by simpa using ham
          by_cases h16 : acc.length = 16
          · have hres : Hid (rdGo note (fromEndL note) [] = none) := by rw [Hid, hgo2.out, if_pos (.inr h16)]
            have h16' : ((acc.length : Int) == 16) = true := by rw [h16]; rfl
            rw [ham']
            clear ham ham' hgo2 h16
            gi_wp2_with fail
            refine ⟨?_, ?_⟩
            · exact (keeps_next (unhide H5).1).trans (keeps_res _ w.heap.size _ _ _)
            · exact ⟨acc, _, (unhide H5).2.res _ _ _, hres.out⟩
          · have hres : Hid (rdGo note (fromEndL note) [] = rdGo note rest (acc ++ [⟨xn, xi, xm⟩])) := by rw [Hid, hgo2.out, if_neg (by simp [ham', h16])]
            have h16' : ((acc.length : Int) == 16) = false := by rw [beq_eq_false_iff_ne]; omega
            rw [ham']
            clear ham ham' hgo2
            gi_wp2_with (gi_at_builtin; go_must (refine wpListIn_appG1 w5 rfl _ _ rfl (y := ⟨xn, xi, xm⟩) (unhide H5).2.own rfl rfl (by omega) (by omega) ?_; intro v6 w6 hO6 hg6 hat6; have HO6 := hide (And.intro hO6 hg6); obtain ⟨A6, cp6, rfl⟩ := hO6.slice; have hap := (unhide H5).2.app hg6 hO6; have c56 := hap.1.cell 0; have f56 := hap.1.frozen 0; simp only [List.getElem?_toArray, List.getElem?_cons_zero] at c56; have HAP := hide hap; clear hO6 hg6 hat6 hap))
            have hap2 := (unhide HAP).2
            simp only [List.length_append, List.length_cons, List.length_nil, Nat.zero_add] at hap2
            refine ⟨?_, ?_, acc ++ [⟨xn, xi, xm⟩], _, hap2.1, ?_, by simp; omega, fun rest' hr' => ?_⟩
            · exact (keeps_next (unhide H5).1).trans hap2.2
            · rw [Below.heap_setCell w6 _ _ _ (by simp), (unhide HO6).2.block _ (by simp; omega) (fun e => by have := ((unhide H5).2.own.lt _ e.symm).1; omega), Below.heap_alloc _ _ _ (by omega)]
              exact (unhide H5).1.block _ hWz
            · have h1 := (unhide HO6).2.size
              rw [World.size_alloc] at h1
              have h2 : (w6.setCell ⟨w.heap.size + 5, 0, none⟩ (.slice A6 (acc.length + 1) cp6)).heap.size = w6.heap.size := by simp [World.setCell]
              rw [h2]; omega
            · rw [hres.out]
              have h1 := unhide HR
              rw [← h1] at hr'
              rw [List.append_cancel_left hr']
  case done =>
    rintro D W hD ⟨acc, v, hB, hWz, hl, hI⟩ hK
    have hres : Hid (readV note = none) := by
      unfold readV
      rw [Hid, if_pos (unhide HNL), hI [] (by simp)]
      rfl
    have HX := hide (And.intro hB (And.intro hD hK)); clear hB hD hK hI
    obtain ⟨A, cp, rfl⟩ := (unhide HX).1.own.slice
    obtain ⟨b0, b1, b2, b3, b4, b5, hO, hb⟩ := id (unhide HX).1
    have c0 := b0.cell 0; have c1 := b1.cell 0; have c2 := b2.cell 0; have c3 := b3.cell 0; have c4 := b4.cell 0; have c5 := b5.cell 0
    have f0 := b0.frozen 0; have f1 := b1.frozen 0; have f2 := b2.frozen 0; have f3 := b3.frozen 0; have f4 := b4.frozen 0; have f5 := b5.frozen 0
    simp only [List.getElem?_toArray, List.getElem?_cons_zero] at c0 c1 c2 c3 c4 c5
    clear b0 b1 b2 b3 b4 b5 hO hb
    have hgo := goes_any ⟨#[]⟩ W (by decide) (Tabs.below (unhide HT) (unhide HX).1.below (Tabs.lt3 (unhide HT)) (Tabs.lt4 (unhide HT)))
    rw [goesV_nil] at hgo
    have HGO := hide hgo; clear hgo
    go_wp2_with fail
    clear c0 c1 c2 c3 c4 c5 f0 f1 f2 f3 f4 f5
    refine (unhide HGO).mono ?_
    rintro e w5 ⟨rfl, hb5⟩
    have hB5 := (unhide HX).1.next hb5
    have hK5 := (hb5.block _ (Array.getElem?_eq_some_iff.1 (unhide HX).2.2).1).trans (unhide HX).2.2
    have H5 := hide (And.intro hB5 hK5); clear hb5 hB5 hK5
    obtain ⟨b0, b1, b2, b3, b4, b5, hO, hb⟩ := id (unhide H5).1
    have c0 := b0.cell 0; have c1 := b1.cell 0; have c2 := b2.cell 0; have c3 := b3.cell 0; have c4 := b4.cell 0; have c5 := b5.cell 0
    have f0 := b0.frozen 0; have f1 := b1.frozen 0; have f2 := b2.frozen 0; have f3 := b3.frozen 0; have f4 := b4.frozen 0; have f5 := b5.frozen 0
    simp only [List.getElem?_toArray, List.getElem?_cons_zero] at c0 c1 c2 c3 c4 c5
    clear b0 b1 b2 b3 b4 b5 hO hb
    have hD7 : w.heap.size + 6 < D := by have h1 := (unhide HST).2.2; have h2 := (unhide HX).2.1; omega
    go_wp2_with fail
    refine read_ret rfl w.heap.size ((unhide H5).1.res _ _ _) ((keeps_res _ _ _ _ _).same D _ (unhide H5).2 rfl) hD7 rfl rfl rfl ⟨_, _, _, rfl⟩ ⟨_, rfl⟩ (fun W' h => ⟨.inr (.inl ⟨h6, hres.out, rfl⟩), h.below⟩)
  case stop =>
    rintro D c pre W hD hpre hX hK
    have hD7 : w.heap.size + 6 < D := by have h1 := (unhide HST).2.2; omega
    cases c with
    | ret =>
      obtain ⟨acc, v, hB, hbad⟩ := hX
      have hres : readV note = none := by unfold readV; rw [if_pos (unhide HNL)]; exact hbad
      have HX := hide (And.intro hB (And.intro hK hres)); clear hB hK hbad hres
      go_wp2_with fail
      exact read_ret rfl w.heap.size (unhide HX).1 (unhide HX).2.1 hD7 rfl rfl rfl ⟨_, _, _, rfl⟩ ⟨_, rfl⟩ (fun W' h => ⟨.inr (.inl ⟨h6, (unhide HX).2.2, rfl⟩), h.below⟩)
    | exit id0 =>
      obtain ⟨rfl, acc, v, at_, hat, hB, hl, hgo⟩ := hX
      obtain ⟨A, cp, rfl⟩ := hB.own.slice
      have hgoes := goes_any (note.extract 0 at_) W (by rw [ByteArray.size_extract]; omega) (Tabs.below (unhide HT) hB.below (Tabs.lt3 (unhide HT)) (Tabs.lt4 (unhide HT)))
      have hrd : Hid (readV note = if goesV (note.extract 0 at_) = true ∧ acc.length ≠ 0 then some (note.extract 0 at_, acc.reverse) else none) := by unfold readV; rw [Hid, if_pos (unhide HNL)]; exact hgo
      generalize note.extract 0 at_ = txt at *
      have HX := hide (And.intro hB hK); have HGO := hide hgoes; clear hB hK hgo hgoes hpre
      obtain ⟨b0, b1, b2, b3, b4, b5, hO, hb⟩ := id (unhide HX).1
      have c0 := b0.cell 0; have c1 := b1.cell 0; have c2 := b2.cell 0; have c3 := b3.cell 0; have c4 := b4.cell 0; have c5 := b5.cell 0
      have f0 := b0.frozen 0; have f1 := b1.frozen 0; have f2 := b2.frozen 0; have f3 := b3.frozen 0; have f4 := b4.frozen 0; have f5 := b5.frozen 0
      simp only [List.getElem?_toArray, List.getElem?_cons_zero] at c0 c1 c2 c3 c4 c5
      clear b0 b1 b2 b3 b4 b5 hO hb
      cases hg : goesV txt with
      | false =>
        have hres : Hid (readV note = none) := by rw [Hid, hrd.out, if_neg (by rw [hg]; simp)]
        rw [hg] at HGO
        clear hrd hg
        go_wp2_with fail
        clear c0 c1 c2 c3 c4 c5 f0 f1 f2 f3 f4 f5
        refine (unhide HGO).mono ?_
        rintro e w5 ⟨rfl, hb5⟩
        have hB5 := (unhide HX).1.next hb5
        have hK5 := (hb5.block _ (Array.getElem?_eq_some_iff.1 (unhide HX).2).1).trans (unhide HX).2
        have H5 := hide (And.intro hB5 hK5); clear hb5 hB5 hK5
        obtain ⟨b0, b1, b2, b3, b4, b5, hO, hb⟩ := id (unhide H5).1
        have c0 := b0.cell 0; have c1 := b1.cell 0; have c2 := b2.cell 0; have c3 := b3.cell 0; have c4 := b4.cell 0; have c5 := b5.cell 0
        have f0 := b0.frozen 0; have f1 := b1.frozen 0; have f2 := b2.frozen 0; have f3 := b3.frozen 0; have f4 := b4.frozen 0; have f5 := b5.frozen 0
        simp only [List.getElem?_toArray, List.getElem?_cons_zero] at c0 c1 c2 c3 c4 c5
        clear b0 b1 b2 b3 b4 b5 hO hb
        go_wp2_with fail
        refine read_ret rfl w.heap.size ((unhide H5).1.res _ _ _) ((keeps_res _ _ _ _ _).same D _ (unhide H5).2 rfl) hD7 rfl rfl rfl ⟨_, _, _, rfl⟩ ⟨_, rfl⟩ (fun W' h => ⟨.inr (.inl ⟨h6, hres.out, rfl⟩), h.below⟩)
      | true =>
        rw [hg] at HGO
        by_cases h0 : acc.length = 0
        · have hres : Hid (readV note = none) := by rw [Hid, hrd.out, if_neg (by rw [h0]; simp)]
          have h0' : ((acc.length : Int) == 0) = true := by rw [h0]; rfl
          clear hrd hg h0
          go_wp2_with fail
          clear c0 c1 c2 c3 c4 c5 f0 f1 f2 f3 f4 f5
          refine (unhide HGO).mono ?_
          rintro e w5 ⟨rfl, hb5⟩
          have hB5 := (unhide HX).1.next hb5
          have hK5 := (hb5.block _ (Array.getElem?_eq_some_iff.1 (unhide HX).2).1).trans (unhide HX).2
          have H5 := hide (And.intro hB5 hK5); clear hb5 hB5 hK5
          obtain ⟨b0, b1, b2, b3, b4, b5, hO, hb⟩ := id (unhide H5).1
          have c0 := b0.cell 0; have c1 := b1.cell 0; have c2 := b2.cell 0; have c3 := b3.cell 0; have c4 := b4.cell 0; have c5 := b5.cell 0
          have f0 := b0.frozen 0; have f1 := b1.frozen 0; have f2 := b2.frozen 0; have f3 := b3.frozen 0; have f4 := b4.frozen 0; have f5 := b5.frozen 0
          simp only [List.getElem?_toArray, List.getElem?_cons_zero] at c0 c1 c2 c3 c4 c5
          clear b0 b1 b2 b3 b4 b5 hO hb
          go_wp2_with fail
          refine read_ret rfl w.heap.size ((unhide H5).1.res _ _ _) ((keeps_res _ _ _ _ _).same D _ (unhide H5).2 rfl) hD7 rfl rfl rfl ⟨_, _, _, rfl⟩ ⟨_, rfl⟩ (fun W' h => ⟨.inr (.inl ⟨h6, hres.out, rfl⟩), h.below⟩)
        · have hres : Hid (readV note = some (txt, acc.reverse)) := by rw [Hid, hrd.out, if_pos ⟨hg, h0⟩]
          have h0' : ((acc.length : Int) == 0) = false := by rw [beq_eq_false_iff_ne]; omega
          clear hrd hg h0
          go_wp2_with fail
          clear c0 c1 c2 c3 c4 c5 f0 f1 f2 f3 f4 f5
          refine (unhide HGO).mono ?_
          rintro e w5 ⟨rfl, hb5⟩
          have hB5 := (unhide HX).1.next hb5
          have hK5 := (hb5.block _ (Array.getElem?_eq_some_iff.1 (unhide HX).2).1).trans (unhide HX).2
          have hrv := reverse_any (.slice A acc.length cp) acc (w.heap.size + 7) w5 (by omega) hB5.own
          have H5 := hide (And.intro hB5 hK5); have HRV := hide hrv; clear hb5 hB5 hK5 hrv
          obtain ⟨b0, b1, b2, b3, b4, b5, hO, hb⟩ := id (unhide H5).1
          have c0 := b0.cell 0; have c1 := b1.cell 0; have c2 := b2.cell 0; have c3 := b3.cell 0; have c4 := b4.cell 0; have c5 := b5.cell 0
          have f0 := b0.frozen 0; have f1 := b1.frozen 0; have f2 := b2.frozen 0; have f3 := b3.frozen 0; have f4 := b4.frozen 0; have f5 := b5.frozen 0
          simp only [List.getElem?_toArray, List.getElem?_cons_zero] at c0 c1 c2 c3 c4 c5
          clear b0 b1 b2 b3 b4 b5 hO hb
          go_wp2_with fail
          clear c0 c1 c2 c3 c4 c5 f0 f1 f2 f3 f4 f5
          refine (unhide HRV).mono ?_
          rintro e w6 ⟨⟨u, rfl⟩, hO6, hg6⟩
          have hB6 := (unhide H5).1.rev hg6 hO6
          have hK6 := (keeps_own (unhide H5).1.own hg6).same D _ (unhide H5).2 rfl
          have H6 := hide (And.intro hB6 hK6); clear hO6 hg6 hB6 hK6 H5 HRV
          obtain ⟨b0, b1, b2, b3, b4, b5, hO, hb⟩ := id (unhide H6).1
          have c0 := b0.cell 0; have c1 := b1.cell 0; have c2 := b2.cell 0; have c3 := b3.cell 0; have c4 := b4.cell 0; have c5 := b5.cell 0
          have f0 := b0.frozen 0; have f1 := b1.frozen 0; have f2 := b2.frozen 0; have f3 := b3.frozen 0; have f4 := b4.frozen 0; have f5 := b5.frozen 0
          simp only [List.getElem?_toArray, List.getElem?_cons_zero] at c0 c1 c2 c3 c4 c5
          clear b0 b1 b2 b3 b4 b5 hO hb
          go_wp2_with fail
          go_region
          go_wp2_with fail
          refine read_ret rfl w.heap.size ((unhide H6).1.res _ _ _).drew (((keeps_res _ _ _ _ _).trans (KeepsOthers.drew _)).same D _ (unhide H6).2 rfl) hD7 rfl rfl rfl ⟨_, _, _, rfl⟩ ⟨_, rfl⟩ (fun W' h => ⟨.inr (.inr ⟨h6, _, _, _, hres.out, rfl, h.own.mono (by omega)⟩), h.below⟩)
    | _ => exact hX.elim
set_option maxRecDepth 100000 in
set_option maxHeartbeats 1000000 in
theorem read_any (note : ByteArray) (w : World) (hs : note.size ≤ 1099511627776) (hM : MaxOk w) (hT : Lib.Utf8Tabs 5 6 w) :
    Calls Tryz.prog 19 #[.string note] w fun e w' => ReadR w.heap.size note e w' ∧ Below w.heap.size w w' := by
  obtain ⟨w4, hw4⟩ : ∃ w4, w4 = (((w.alloc (.cells #[.string note] 9)).alloc (.cells #[.string ⟨#[]⟩] 9)).alloc (.cells #[.slice none 0 0] 23)).alloc (.cells #[.int .i64 0] 33) := ⟨_, rfl⟩
  have hz : w4.heap.size = w.heap.size + 4 := by rw [hw4]; simp
  have b1 : Blk w4 (w.heap.size + 1) 9 #[.string ⟨#[]⟩] := by rw [hw4]; exact ((Blk.new_ (by simp) _ _).alloc _).alloc _
  have b2 : Blk w4 (w.heap.size + 2) 23 #[.slice none 0 0] := by rw [hw4]; exact (Blk.new_ (by simp) _ _).alloc _
  have b3 : Blk w4 (w.heap.size + 3) 33 #[.int .i64 0] := by rw [hw4]; exact Blk.new_ (by simp) _ _
  have hb4 : Below w.heap.size w w4 := by rw [hw4]; exact ((((Below.refl _ _).alloc (Nat.le_refl _) _).alloc (by simp) _).alloc (by simp; omega) _).alloc (by simp; omega) _
  have key : ∀ z : Int, Blk (((w4.setCell ⟨w.heap.size + 1, 0, none⟩ (.string ⟨#[]⟩)).setCell ⟨w.heap.size + 2, 0, none⟩ (.slice none 0 0)).setCell ⟨w.heap.size + 3, 0, none⟩ (.int .i64 z)) (w.heap.size + 1) 9 #[.string ⟨#[]⟩] ∧
      Blk (((w4.setCell ⟨w.heap.size + 1, 0, none⟩ (.string ⟨#[]⟩)).setCell ⟨w.heap.size + 2, 0, none⟩ (.slice none 0 0)).setCell ⟨w.heap.size + 3, 0, none⟩ (.int .i64 z)) (w.heap.size + 2) 23 #[.slice none 0 0] ∧
      Blk (((w4.setCell ⟨w.heap.size + 1, 0, none⟩ (.string ⟨#[]⟩)).setCell ⟨w.heap.size + 2, 0, none⟩ (.slice none 0 0)).setCell ⟨w.heap.size + 3, 0, none⟩ (.int .i64 z)) (w.heap.size + 3) 33 #[.int .i64 z] ∧
      Below w.heap.size w (((w4.setCell ⟨w.heap.size + 1, 0, none⟩ (.string ⟨#[]⟩)).setCell ⟨w.heap.size + 2, 0, none⟩ (.slice none 0 0)).setCell ⟨w.heap.size + 3, 0, none⟩ (.int .i64 z)) := fun z =>
    ⟨((b1.set_ 0 _).far (by simp) _).far (by simp) _, ((b2.far (by simp) _).set_ 0 _).far (by simp) _, ((b3.far (by simp) _).far (by simp) _).set_ 0 _, ((hb4.setCell (by simp) _).setCell (by simp) _).setCell (by simp) _⟩
  rcases Nat.lt_or_ge 65536 note.size with h6 | h6
  · have h6' : (65536 : Int) < (note.size : Int) := by omega
    clear key hb4 b1 b2 b3 hw4 hM hT
    go_enter Tryz.func19, Tryz.ntmps19
    go_wp2_with fail
    simp only [Nat.add_assoc, Nat.reduceAdd]
    refine bodyPost_ret (results3 (N := w.heap.size) rfl (((Blk.new_ (by simp) _ _).alloc _).alloc _) ((Blk.new_ (by simp) _ _).alloc _) (Blk.new_ (by simp) _ _) rfl rfl rfl ⟨_, _, _, rfl⟩ ⟨_, rfl⟩) rfl ⟨.inl ⟨h6, rfl⟩, ((((Below.refl _ _).alloc (Nat.le_refl _) _).alloc (by simp) _).alloc (by simp; omega) _).alloc (by simp; omega) _⟩
  · by_cases hnl : note.data.toList.getLast? = some 10
    · exact read_main note w h6 hnl hM hT
    · have h6' : ¬ (65536 : Int) < (note.size : Int) := by omega
      have hx : Hid (Lib.hasSuffix note.data.toList [10] = false) := by rw [Hid, hasSuffix_nl, decide_eq_false hnl]
      have hres : Hid (readV note = none) := by unfold readV; rw [Hid, if_neg hnl]
      have hsu := Tryz.strings_HasSuffix note ⟨#[10]⟩ w4 (by omega)
      have c1 := b1.cell 0; have c2 := b2.cell 0; have c3 := b3.cell 0; have f1 := b1.frozen 0; have f2 := b2.frozen 0; have f3 := b3.frozen 0
      simp only [List.getElem?_toArray, List.getElem?_cons_zero] at c1 c2 c3
      have HSU := hide hsu; have HW4 := hide hw4; have HK := hide key; clear hw4 key hM hT b1 b2 b3 hb4 hz hsu hnl
      go_enter Tryz.func19, Tryz.ntmps19
      go_wp2_with fail
      rw [← unhide HW4]
      refine (unhide HSU).mono ?_
      rintro e w5 ⟨rfl, rfl⟩
      rw [hx.out]
      simp only [Nat.add_assoc, Nat.reduceAdd]
      go_wp2_with fail
      refine bodyPost_ret (results3 (N := w.heap.size) rfl ((unhide HK) 200).1 ((unhide HK) 200).2.1 ((unhide HK) 200).2.2.1 rfl rfl rfl ⟨_, _, _, rfl⟩ ⟨_, rfl⟩) rfl ⟨.inr (.inl ⟨h6, hres.out, rfl⟩), ((unhide HK) 200).2.2.2⟩
end Go.Proofs.YtphoflcilpopgaaGreatDoor

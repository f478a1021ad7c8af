/-
  PLAIN LAW of FrontAsk and FrontLines: the call's line, read by either side.
-/
import Derived.Test.YtnkioabdpploeaaGreatDoorRows
import Derived.Test.YtnkioabdpploeaaGreatDoorGBase
import Derived.Test.YtnkioabdpploeaaGreatDoorSTellP
import Derived.Test.YtnkioabdpploeaaGreatDoorGTld
set_option linter.unusedVariables false
set_option linter.unusedSimpArgs false
namespace Go.Proofs.YtnkioabdpploeaaGreatDoor
open Go.RowKit Go.Lib
/-- A call. -/
structure CaR where
  nm : ByteArray
  ns : List Int
  ss : List ByteArray
/-- The names of the requests, in the program's order, with how many numbers and texts they have. -/
def nmsL : List (List UInt8 × Nat × Nat) := [([115, 105, 122, 101], 0, 0), ([99, 104, 101, 99, 107, 112, 111, 105, 110, 116], 0, 0), ([99, 111, 110, 115, 105, 115, 116, 101, 110, 99, 121], 2, 0), ([112, 108, 97, 99, 101], 1, 1), ([101, 110, 116, 114, 105, 101, 115], 2, 0), ([101, 110, 116, 114, 121], 2, 0), ([97, 100, 100], 0, 1), ([112, 114, 111, 109, 105, 115, 101], 0, 1), ([116, 105, 108, 101], 0, 1)]
def shapeS (nm : ByteArray) : Option (Nat × Nat) := (nmsL.find? (fun x => x.1 == nm.data.toList)).map (·.2)
theorem shapeS_some {nm : ByteArray} {k m : Nat} (h : shapeS nm = some (k, m)) : nm ≠ ⟨#[]⟩ ∧ (∀ c ∈ nm.data.toList, plainC c) ∧ nm.size ≤ 11 ∧ k ≤ 2 ∧ m ≤ 1 := by
  obtain ⟨x, hx, e⟩ := Option.map_eq_some_iff.1 h
  have h1 := List.mem_of_find?_eq_some hx
  have h2 := List.find?_some hx
  have h3 : ∀ x ∈ nmsL, x.1 ≠ [] ∧ (∀ c ∈ x.1, plainC c) ∧ x.1.length ≤ 11 ∧ x.2.1 ≤ 2 ∧ x.2.2 ≤ 1 := by unfold plainC; decide
  have h4 := h3 x h1
  have h5 : x.1 = nm.data.toList := by simpa using h2
  rw [h5, e] at h4
  have hz : nm.data.toList.length = nm.size := Array.length_toList
  rw [hz] at h4
  exact ⟨fun e => h4.1 (by rw [e]), h4.2.1, h4.2.2⟩
/-- The words of a call's line. -/
def callW (r : CaR) : List ByteArray := r.nm :: (r.ns.map decS ++ r.ss.map escS)
def callB (r : CaR) : ByteArray := bsL (joinSp (callW r))
def CaOk (r : CaR) : Prop := shapeS r.nm = some (r.ns.length, r.ss.length)
instance (r : CaR) : Decidable (CaOk r) := inferInstanceAs (Decidable (_ = _))
def takeC (k : Nat) (ws : List ByteArray) : CaR := ⟨ws.getD 0 ⟨#[]⟩, ((ws.drop 1).take k).map numV, ws.drop (1 + k)⟩
/-- What Asked answers. -/
def callO (s : ByteArray) : Option CaR := match wdsL s with
  | none => none
  | some ws => if ws = [] then none else match shapeS (ws.getD 0 ⟨#[]⟩) with
    | none => none
    | some (k, m) => if ws.length ≠ 1 + k + m then none else if callB (takeC k ws) = s then some (takeC k ws) else none
theorem call_words {r : CaR} (h0 : r.nm ≠ ⟨#[]⟩) (h1 : ∀ c ∈ r.nm.data.toList, plainC c) : wdsL (callB r) = some (r.nm :: (r.ns.map decS ++ r.ss)) := by
  have hne : callB r ≠ ⟨#[]⟩ := fun e => by
    have h3 := congrArg (fun b : ByteArray => b.data.toList) e
    have h4 : joinSp (callW r) = [] := h3
    unfold callW at h4
    rw [joinSp_cons] at h4
    have h5 := (List.append_eq_nil_iff.1 h4).1
    exact h0 (by apply ByteArray.ext; apply Array.ext'; exact h5)
  unfold wdsL
  rw [if_neg hne]
  have e1 : (callB r).data.toList = joinSp (callW r) := rfl
  have hch : ∀ w ∈ (r.ns.map decS ++ r.ss.map escS), ∀ x ∈ w.data.toList, wordC x := fun w hw x hx => by
    rcases List.mem_append.1 hw with hw | hw
    · obtain ⟨z, -, rfl⟩ := List.mem_map.1 hw
      exact ((decS_plain z).2 x hx).1
    · obtain ⟨y, -, rfl⟩ := List.mem_map.1 hw
      exact escS_word y x hx
  rw [e1]
  unfold callW
  rw [splL_joinSp (fun hm => by have := (h1 32 hm).1; exact absurd this (by decide)) (fun w hw hm => by have := hch w hw 32 hm; exact absurd this (by unfold wordC; decide))]
  rw [wlO, unE_plain h0 h1]
  simp only
  rw [wlO_app (wlO_dec _) (wlO_map r.ss escS (fun x _ => unE_esc x))]
  rfl
theorem call_drop {r : CaR} : (r.nm :: (r.ns.map decS ++ r.ss)).drop 1 = r.ns.map decS ++ r.ss := rfl
/-- What was written, is read. -/
theorem call_back {r : CaR} (h : CaOk r) (hn : ∀ z ∈ r.ns, In64 z) : callO (callB r) = some r := by
  have hs := shapeS_some h
  have hw := call_words (r := r) hs.1 hs.2.1
  have hl : (r.nm :: (r.ns.map decS ++ r.ss)).length = 1 + r.ns.length + r.ss.length := by simp; omega
  have htk : takeC r.ns.length (r.nm :: (r.ns.map decS ++ r.ss)) = r := by
    unfold takeC
    obtain ⟨nm, ns, ss⟩ := r
    congr 1
    · rw [call_drop (r := ⟨nm, ns, ss⟩), List.take_left' (by simp), List.map_map]
      conv => rhs; rw [← List.map_id ns]
      refine List.map_congr_left fun z hz => ?_
      show numV (decS z) = z
      unfold numV
      rw [numV_dec (hn z hz)]; rfl
    · rw [← List.drop_drop, call_drop (r := ⟨nm, ns, ss⟩), List.drop_left' (by simp)]
  unfold callO
  rw [hw]
  dsimp only
  rw [if_neg (by simp)]
  rw [show (r.nm :: (r.ns.map decS ++ r.ss)).getD 0 ⟨#[]⟩ = r.nm from rfl, show shapeS r.nm = some (r.ns.length, r.ss.length) from h]
  dsimp only
  rw [if_neg (by rw [hl]; simp), htk, if_pos rfl]
theorem call_none1 {s : ByteArray} (h : wdsL s = none) : callO s = none := by unfold callO; rw [h]
theorem call_none2 {s : ByteArray} (h : wdsL s = some []) : callO s = none := by unfold callO; rw [h]; dsimp only; rw [if_pos rfl]
theorem call_none3 {s : ByteArray} {ws : List ByteArray} (h : wdsL s = some ws) (hk : shapeS (ws.getD 0 ⟨#[]⟩) = none) : callO s = none := by
  unfold callO; rw [h]; dsimp only
  split
  · rfl
  · rw [hk]
theorem call_none4 {s : ByteArray} {ws : List ByteArray} {k m : Nat} (h : wdsL s = some ws) (hk : shapeS (ws.getD 0 ⟨#[]⟩) = some (k, m)) (hl : ws.length ≠ 1 + k + m) : callO s = none := by
  unfold callO; rw [h]; dsimp only
  split
  · rfl
  · rw [hk]; dsimp only; rw [if_pos hl]
theorem call_last {s : ByteArray} {ws : List ByteArray} {k m : Nat} (h : wdsL s = some ws) (hk : shapeS (ws.getD 0 ⟨#[]⟩) = some (k, m)) (hl : ws.length = 1 + k + m) : callO s = if callB (takeC k ws) = s then some (takeC k ws) else none := by
  unfold callO; rw [h]; dsimp only
  rw [if_neg (fun e => by rw [e] at hl; simp at hl; omega), hk]; dsimp only; rw [if_neg (by omega)]
theorem takeC_ok {ws : List ByteArray} {k m : Nat} (hk : shapeS (ws.getD 0 ⟨#[]⟩) = some (k, m)) (hl : ws.length = 1 + k + m) : CaOk (takeC k ws) := by
  unfold CaOk takeC
  rw [hk]
  simp only [List.length_map, List.length_take, List.length_drop]
  congr 2 <;> omega
/-- Where the line is written again as it was, its numbers are numbers. -/
theorem call_good {s : ByteArray} {ws : List ByteArray} {k m : Nat} (hw : wdsL s = some ws) (hk : shapeS (ws.getD 0 ⟨#[]⟩) = some (k, m)) (hl : ws.length = 1 + k + m) (ht : callB (takeC k ws) = s) : numsO ((ws.drop 1).take k) = some (takeC k ws).ns := by
  have hs := shapeS_some (takeC_ok hk hl)
  have h1 := call_words (r := takeC k ws) hs.1 hs.2.1
  rw [ht, hw] at h1
  injection h1 with h1
  have hlen : (takeC k ws).ns.length = k := by
    show (List.map _ _).length = _
    rw [List.length_map, List.length_take, List.length_drop]; omega
  have hin : ∀ z ∈ (takeC k ws).ns, In64 z := fun z hz => by
    obtain ⟨x, -, rfl⟩ := List.mem_map.1 hz
    exact numV_in x
  have h3 : (ws.drop 1).take k = (takeC k ws).ns.map decS := by
    have hd : ws.drop 1 = (takeC k ws).ns.map decS ++ (takeC k ws).ss := by
      conv => lhs; rw [h1]
      rfl
    rw [hd]; exact List.take_left' (by rw [List.length_map, hlen])
  rw [h3]
  exact numsO_dec _ hin
theorem call_bad {s : ByteArray} {ws : List ByteArray} {k m : Nat} (hw : wdsL s = some ws) (hk : shapeS (ws.getD 0 ⟨#[]⟩) = some (k, m)) (hl : ws.length = 1 + k + m) (hn : numsO ((ws.drop 1).take k) = none) : callO s = none := by
  rw [call_last hw hk hl]
  split
  · rename_i ht
    have := call_good hw hk hl ht
    rw [hn] at this; cases this
  · rfl
/-- What is read, is written again as it was. -/
theorem call_again {s : ByteArray} {r : CaR} (h : callO s = some r) : CaOk r ∧ callB r = s ∧ (∀ z ∈ r.ns, In64 z) ∧ (∀ x ∈ r.ss, x.size ≤ s.size) := by
  unfold callO at h
  split at h
  · cases h
  · rename_i ws hw
    split at h
    · cases h
    · split at h
      · cases h
      · rename_i k m hk
        split at h
        · cases h
        · rename_i hl
          split at h
          · rename_i ht
            injection h with h
            subst h
            refine ⟨takeC_ok hk (by omega), ht, fun z hz => ?_, fun x hx => (wdsL_size hw).1 x (List.mem_of_mem_drop hx)⟩
            obtain ⟨x, -, rfl⟩ := List.mem_map.1 hz
            exact numV_in x
          · cases h
theorem call_size {r : CaR} (h : CaOk r) (hn : ∀ z ∈ r.ns, In64 z) (B : Nat) (hB : ∀ x ∈ r.ss, x.size ≤ B) : (joinSp (callW r)).length ≤ 100 + 3 * B := by
  have hs := shapeS_some h
  unfold callW
  rw [joinSp_cons, List.length_append, show r.nm.data.toList.length = r.nm.size from Array.length_toList, spaced_sub]
  have h3 := spaced_le 20 (r.ns.map decS) (fun x hx => by obtain ⟨z, hz, rfl⟩ := List.mem_map.1 hx; exact decS_size (hn z hz))
  have h4 := spaced_le (3 * B + 1) (r.ss.map escS) (fun x hx => by
    obtain ⟨z, hz, rfl⟩ := List.mem_map.1 hx
    have := escS_size z
    have := hB z hz
    omega)
  rw [List.length_map] at h3 h4
  have h5 : (3 * B + 1 + 1) * r.ss.length ≤ (3 * B + 1 + 1) * 1 := Nat.mul_le_mul_left _ hs.2.2.2.2
  have h6 := hs.2.2.2.1
  omega
/-- What Ask answers. -/
def fcallV (r : CaR) : Value := .tuple #[.string (if CaOk r then callB r else ⟨#[]⟩), .int .i64 (if CaOk r then 0 else 270)]
/-- What Asked answers. -/
def CalR (w' : World) (base : Nat) (s : ByteArray) (e : Ending) : Prop :=
  (∃ r vn vs, callO s = some r ∧ e = .returned (.tuple #[.agg #[.string r.nm, vn, vs], .int .i64 0]) ∧ OwnI w' base vn r.ns ∧ OwnT w' base vs r.ss) ∨
  (callO s = none ∧ e = .returned (.tuple #[.agg #[.string ⟨#[]⟩, .slice none 0 0, .slice none 0 0], .int .i64 270]))
end Go.Proofs.YtnkioabdpploeaaGreatDoor

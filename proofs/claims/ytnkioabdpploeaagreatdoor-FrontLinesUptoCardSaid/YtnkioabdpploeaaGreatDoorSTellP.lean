/-
  PLAIN LAW of FrontTell: the reply's line, read by either side.
-/
import Derived.Test.YtnkioabdpploeaaGreatDoorRows
import Derived.Test.YtnkioabdpploeaaGreatDoorGBase
import Derived.Test.YtnkioabdpploeaaGreatDoorSTWords
import Derived.Test.YtnkioabdpploeaaGreatDoorSStepP
import Derived.Test.YtnkioabdpploeaaGreatDoorSBackL
set_option linter.unusedVariables false
set_option linter.unusedSimpArgs false
namespace Go.Proofs.YtnkioabdpploeaaGreatDoor
open Go.RowKit Go.Lib
/-- A reply. -/
structure RpR where
  c : Int
  ns : List Int
  ss : List ByteArray
/-- The words of a reply's line. -/
def tellW (r : RpR) : List ByteArray := decS r.c :: (decS r.ns.length :: r.ns.map decS ++ r.ss.map escS)
def tellB (r : RpR) : ByteArray := bsL (joinSp (tellW r))
/-- The number that a word says, or none: nought. -/
def numV (x : ByteArray) : Int := (undV x).getD 0
theorem numV_in (x : ByteArray) : In64 (numV x) := by
  unfold numV
  cases h : undV x with
  | none => simp [In64]
  | some z => exact (undV_some h).2
/-- The reply that stands in words, if it is one. -/
def takeR (ws : List ByteArray) : RpR := ⟨numV (ws.getD 0 ⟨#[]⟩), ((ws.drop 2).take (numV (ws.getD 1 ⟨#[]⟩)).toNat).map numV, ws.drop (2 + (numV (ws.getD 1 ⟨#[]⟩)).toNat)⟩
/-- What Told answers. -/
def toldO (s : ByteArray) : Option RpR := match wdsL s with
  | none => none
  | some ws => if ws.length < 2 then none else
    if numV (ws.getD 1 ⟨#[]⟩) < 0 ∨ (ws.length : Int) - 2 < numV (ws.getD 1 ⟨#[]⟩) then none else
    if tellB (takeR ws) = s then some (takeR ws) else none
theorem tell_ne (r : RpR) : tellB r ≠ ⟨#[]⟩ := fun e => by
  have h3 := congrArg (fun b : ByteArray => b.data.toList) e
  have h4 : joinSp (tellW r) = [] := h3
  unfold tellW at h4
  rw [joinSp_cons] at h4
  have h5 := (List.append_eq_nil_iff.1 h4).1
  exact (decS_plain r.c).1 (by apply ByteArray.ext; apply Array.ext'; exact h5)
/-- The line of a reply is parted into its words. -/
theorem tell_words (r : RpR) : wdsL (tellB r) = some (decS r.c :: decS r.ns.length :: (r.ns.map decS ++ r.ss)) := by
  unfold wdsL
  rw [if_neg (tell_ne r)]
  have e1 : (tellB r).data.toList = joinSp (tellW r) := rfl
  have hch : ∀ w ∈ (decS r.ns.length :: r.ns.map decS ++ r.ss.map escS), ∀ x ∈ w.data.toList, wordC x := fun w hw x hx => by
    rcases List.mem_append.1 hw with hw | hw
    · rcases List.mem_cons.1 hw with rfl | hw
      · exact ((decS_plain _).2 x hx).1
      · obtain ⟨z, -, rfl⟩ := List.mem_map.1 hw
        exact ((decS_plain z).2 x hx).1
    · obtain ⟨y, -, rfl⟩ := List.mem_map.1 hw
      exact escS_word y x hx
  rw [e1]
  unfold tellW
  rw [splL_joinSp (fun hm => by have := ((decS_plain r.c).2 32 hm).1; exact absurd this (by decide)) (fun w hw hm => by have := hch w hw 32 hm; exact absurd this (by unfold wordC; decide))]
  have e2 : decS r.c :: (decS r.ns.length :: r.ns.map decS ++ r.ss.map escS) = (r.c :: (r.ns.length : Int) :: r.ns).map decS ++ r.ss.map escS := rfl
  rw [e2, wlO_app (wlO_dec _) (wlO_map r.ss escS (fun x _ => unE_esc x))]
  rfl
theorem numV_dec {z : Int} (h : In64 z) : undV (decS z) = some z := undV_of h.1 h.2 rfl
/-- Where the line is written again as it was, each of its numbers is one. -/
theorem told_good {s : ByteArray} {ws : List ByteArray} (hw : wdsL s = some ws) (hl : 2 ≤ ws.length) (hk : 0 ≤ numV (ws.getD 1 ⟨#[]⟩) ∧ numV (ws.getD 1 ⟨#[]⟩) ≤ (ws.length : Int) - 2) (hz : ws.length ≤ 1099511627776) (ht : tellB (takeR ws) = s) :
    numsO (ws.take 2) = some [numV (ws.getD 0 ⟨#[]⟩), numV (ws.getD 1 ⟨#[]⟩)] ∧ numsO ((ws.drop 2).take (numV (ws.getD 1 ⟨#[]⟩)).toNat) = some (takeR ws).ns := by
  have h1 := tell_words (takeR ws)
  rw [ht, hw] at h1
  injection h1 with h1
  have hlen : (takeR ws).ns.length = (numV (ws.getD 1 ⟨#[]⟩)).toNat := by
    show (List.map _ _).length = _
    rw [List.length_map, List.length_take, List.length_drop]; omega
  have hin : ∀ z ∈ (takeR ws).ns, In64 z := fun z hz => by
    obtain ⟨x, -, rfl⟩ := List.mem_map.1 hz
    exact numV_in x
  have h2 : ws.take 2 = [decS (takeR ws).c, decS (takeR ws).ns.length] := by
    conv => lhs; rw [h1]
    rfl
  have h3 : (ws.drop 2).take (numV (ws.getD 1 ⟨#[]⟩)).toNat = (takeR ws).ns.map decS := by
    have hd : ws.drop 2 = (takeR ws).ns.map decS ++ (takeR ws).ss := by
      conv => lhs; rw [h1]
      rfl
    rw [hd, ← hlen, List.take_left' (by simp)]
  have hc : ((takeR ws).ns.length : Int) = numV (ws.getD 1 ⟨#[]⟩) := by omega
  refine ⟨?_, ?_⟩
  · rw [h2]
    rw [hc]
    show numsO ([(takeR ws).c, numV (ws.getD 1 ⟨#[]⟩)].map decS) = _
    rw [numsO_dec _ (fun z hz => by
      rcases List.mem_cons.1 hz with rfl | hz
      · exact numV_in _
      · rw [List.mem_singleton] at hz; subst hz; exact numV_in _)]
    rfl
  · rw [h3]
    exact numsO_dec _ hin
theorem numsO_map : ∀ {l : List ByteArray} {ns : List Int}, numsO l = some ns → l.map numV = ns
  | [], ns, h => by simp [numsO] at h; subst h; rfl
  | x :: r, ns, h => by
    rw [numsO] at h
    cases hx : undV x with
    | none => rw [hx] at h; cases h
    | some z =>
      rw [hx] at h
      obtain ⟨q, hq, rfl⟩ := Option.map_eq_some_iff.1 h
      rw [List.map_cons, numsO_map hq]
      unfold numV
      rw [hx]; rfl
end Go.Proofs.YtnkioabdpploeaaGreatDoor

/-
  PLAIN LAWS for PlayComesBack: what Text writes, Decode reads.
-/
import Derived.Test.YtnkioabdpploeaaGreatDoorRows
import Derived.Test.YtnkioabdpploeaaGreatDoorGBase
import Derived.Test.YtnkioabdpploeaaGreatDoorSRScript
import Derived.Test.YtnkioabdpploeaaGreatDoorSStepP
import Derived.Test.YtnkioabdpploeaaGreatDoorSDecP
import Derived.Test.YtnkioabdpploeaaGreatDoorSByL
set_option linter.unusedVariables false
namespace Go.Proofs.YtnkioabdpploeaaGreatDoor
open Go.RowKit Go.Lib
/-- A sign that stands for itself in a word. -/
def plainC (c : UInt8) : Prop := 32 < c.toNat ∧ c.toNat < 127 ∧ c ≠ 37
theorem escL_plain : ∀ l : List UInt8, (∀ c ∈ l, plainC c) → l.flatMap escB = l
  | [], _ => rfl
  | c :: r, h => by
    have hc := h c (List.mem_cons_self ..)
    rw [List.flatMap_cons, escL_plain r (fun x hx => h x (List.mem_cons_of_mem _ hx))]
    unfold escB
    rw [if_pos (show 32 < c.toNat ∧ c.toNat < 127 ∧ c ≠ 37 from hc)]; rfl
theorem escS_plain {s : ByteArray} (hne : s ≠ ⟨#[]⟩) (h : ∀ c ∈ s.data.toList, plainC c) : escS s = s := by
  apply ByteArray.ext; apply Array.ext'
  rw [escS_cons hne, escL_plain _ h]
theorem unE_plain {s : ByteArray} (hne : s ≠ ⟨#[]⟩) (h : ∀ c ∈ s.data.toList, plainC c) : unE s = some s := by
  have := unE_esc s
  rwa [escS_plain hne h] at this
/-- No blank, no line's end. -/
def wordC (c : UInt8) : Prop := 32 < c.toNat
theorem escB_word (c : UInt8) : ∀ x ∈ escB c, wordC x := by
  have hh : ∀ v : Fin 16, wordC (hexB v.val) := by unfold wordC; decide
  have h := c.toNat_lt
  unfold escB
  split
  · rename_i h1; intro x hx; simp at hx; subst hx; exact h1.1
  · intro x hx
    simp at hx
    rcases hx with rfl | rfl | rfl
    · unfold wordC; decide
    · exact hh ⟨c.toNat / 16, by omega⟩
    · exact hh ⟨c.toNat % 16, by omega⟩
theorem escS_word (s : ByteArray) : ∀ x ∈ (escS s).data.toList, wordC x := by
  by_cases h : s = ⟨#[]⟩
  · rw [h, escS_nil]; intro x hx; simp [pctS] at hx; subst hx; unfold wordC; decide
  · rw [escS_cons h]
    intro x hx
    obtain ⟨c, -, hc⟩ := List.mem_flatMap.1 hx
    exact escB_word c x hc
theorem digL_plain : ∀ (k n : Nat), n < 10 ^ k → ∀ x ∈ digL n, plainC x
  | k, n, hk, x, hx => by
    rcases Nat.lt_or_ge n 10 with h | h
    · rw [digL_lt h] at hx
      rw [List.mem_singleton] at hx
      subst hx
      have e : ∀ v : Fin 10, plainC ((48 + v.val).toUInt8) := by unfold plainC; decide
      exact e ⟨n, h⟩
    · cases k with
      | zero => simp at hk; omega
      | succ k =>
        rw [digL_ge h] at hx
        rcases List.mem_append.1 hx with hx | hx
        · exact digL_plain k (n / 10) (by rw [Nat.pow_succ] at hk; omega) x hx
        · rw [List.mem_singleton] at hx
          subst hx
          have e : ∀ v : Fin 10, plainC ((48 + v.val).toUInt8) := by unfold plainC; decide
          exact e ⟨n % 10, by omega⟩
theorem digL_nonempty (n : Nat) : digL n ≠ [] := by
  rcases Nat.lt_or_ge n 10 with h | h
  · rw [digL_lt h]; simp
  · rw [digL_ge h]; simp
theorem decS_plain (z : Int) : decS z ≠ ⟨#[]⟩ ∧ ∀ x ∈ (decS z).data.toList, plainC x := by
  have hp : ∀ n : Nat, ∀ x ∈ digL n, plainC x := fun n => digL_plain (n + 1) n (by
    have h1 : 1 < 10 := by decide
    have h2 : n < 10 ^ n := Nat.lt_pow_self h1
    rw [Nat.pow_succ]
    omega)
  have hl : (decS z).data.toList = decL z := rfl
  refine ⟨fun e => ?_, ?_⟩
  · have h2 : decL z = [] := by rw [← hl, e]
    unfold decL at h2
    split at h2
    · exact digL_nonempty _ h2
    · cases h2
  · rw [hl]
    unfold decL
    split
    · exact hp _
    · intro x hx
      rcases List.mem_cons.1 hx with rfl | hx
      · unfold plainC; decide
      · exact hp _ x hx
theorem unE_dec (z : Int) : unE (decS z) = some (decS z) := unE_plain (decS_plain z).1 (decS_plain z).2
/-- Words joined by blanks are parted into themselves. -/
theorem splL_spaced : ∀ (x : List UInt8) (ws : List ByteArray), 32 ∉ x → (∀ w ∈ ws, 32 ∉ w.data.toList) → splL 32 (x ++ spaced ws) = x :: ws.map (·.data.toList)
  | x, [], hx, _ => by
    show splL 32 (x ++ []) = _
    rw [List.append_nil, splL_free 32 x hx]; rfl
  | x, w :: r, hx, hw => by
    have h : spaced (w :: r) = 32 :: (w.data.toList ++ spaced r) := by unfold spaced; rw [List.flatMap_cons]; rfl
    rw [h, splL_at 32 x _ hx, splL_spaced w.data.toList r (hw w (List.mem_cons_self ..)) (fun y hy => hw y (List.mem_cons_of_mem _ hy))]
    rfl
theorem splL_joinSp {x : ByteArray} {ws : List ByteArray} (hx : 32 ∉ x.data.toList) (hw : ∀ w ∈ ws, 32 ∉ w.data.toList) : (splL 32 (joinSp (x :: ws))).map bsL = x :: ws := by
  rw [joinSp_cons, splL_spaced _ _ hx hw, List.map_cons, List.map_map]
  have hb : ∀ b : ByteArray, bsL b.data.toList = b := fun b => by apply ByteArray.ext; apply Array.ext'; rfl
  rw [hb]
  congr 1
  conv => rhs; rw [← List.map_id ws]
  exact List.map_congr_left fun b _ => hb b
theorem wlO_map : ∀ (l : List ByteArray) (g : ByteArray → ByteArray), (∀ x ∈ l, unE (g x) = some x) → wlO (l.map g) = some l
  | [], g, _ => rfl
  | x :: r, g, h => by
    rw [List.map_cons, wlO, h x (List.mem_cons_self ..)]
    simp only
    rw [wlO_map r g (fun y hy => h y (List.mem_cons_of_mem _ hy))]
    rfl
theorem wlO_app {a b u v : List ByteArray} (ha : wlO a = some u) (hb : wlO b = some v) : wlO (a ++ b) = some (u ++ v) := by
  induction a generalizing u with
  | nil => simp [wlO] at ha; subst ha; simpa using hb
  | cons x r ih =>
    rw [List.cons_append, wlO]
    rw [wlO] at ha
    cases hx : unE x with
    | none => rw [hx] at ha; cases ha
    | some t =>
      rw [hx] at ha
      obtain ⟨q, hq, rfl⟩ := Option.map_eq_some_iff.1 ha
      simp only [ih hq]
      rfl
theorem wlO_dec : ∀ ns : List Int, wlO (ns.map decS) = some (ns.map decS)
  | [] => rfl
  | z :: r => by
    rw [List.map_cons, wlO, unE_dec]
    simp only
    rw [wlO_dec r]
    rfl
theorem numsO_dec : ∀ ns : List Int, (∀ z ∈ ns, In64 z) → numsO (ns.map decS) = some ns
  | [], _ => rfl
  | z :: r, h => by
    have hz := h z (List.mem_cons_self ..)
    rw [List.map_cons, numsO, undV_of hz.1 hz.2 rfl]
    simp only
    rw [numsO_dec r (fun y hy => h y (List.mem_cons_of_mem _ hy))]
    rfl
end Go.Proofs.YtnkioabdpploeaaGreatDoor

/-
  CONTRACT of play.step: a step read from its words.
-/
import Derived.Test.YtaomecinemmdgaaRows
import Derived.Deep.RegionHeld3
import Derived.Deep.DeepCutAuto
import Derived.Deep.CutBlock
import Derived.Deep.CutRange
import Derived.Test.YtaomecinemmdgaaGBase
import Derived.Test.YtaomecinemmdgaaGLns
import Derived.Test.YtaomecinemmdgaaSShapes
import Derived.Test.YtaomecinemmdgaaSNamedK
import Derived.Test.YtaomecinemmdgaaSStepG
import Derived.Test.YtaomecinemmdgaaSShelf
set_option linter.unusedVariables false
set_option linter.unusedSimpArgs false
namespace Go.Proofs.Ytaomecinemmdgaa
open Go.RowKit Go.Lib
theorem rep6 (W : World) : Calls Try.prog 84 #[.string ⟨#[111]⟩, .int .i64 6] W fun e w' => e = .returned (.string ⟨#[111, 111, 111, 111, 111, 111]⟩) ∧ Below W.heap.size W w' :=
  (Try.strings_Repeat ⟨#[111]⟩ 6 W (by decide) (by decide)).mono fun e w' h => ⟨h.1, h.2⟩
/-- Where the words stand after i of them. -/
def SfAt (w : World) (gs g6 : Nat) (k : Int) (F : ShapeR) (ws : List ByteArray) (i : Nat) (W : World) : Prop :=
  ∃ (vn vs v6 : Value) (M : List Int), numsO (ws.take (min i (numN F ws.length))) = some M ∧ (F.opts = true → vn = .slice none 0 0) ∧ (F.opts = false → v6 = .slice none 0 0) ∧
    SfI w W gs g6 k vn vs v6 (if F.opts = true then [] else M) ((ws.drop (numN F ws.length)).take (i - numN F ws.length)) (if F.opts = true then M else [])
theorem numsO_snoc {l : List ByteArray} {x : ByteArray} {M : List Int} (h : numsO l = some M) : numsO (l ++ [x]) = (undV x).map (fun t => M ++ [t]) := by
  induction l generalizing M with
  | nil =>
    simp [numsO] at h
    subst h
    rw [List.nil_append, numsO]
    cases undV x <;> simp [numsO]
  | cons y r ih =>
    rw [List.cons_append, numsO]
    rw [numsO] at h
    cases hy : undV y with
    | none => rw [hy] at h; cases h
    | some t =>
      rw [hy] at h
      obtain ⟨u, hu, rfl⟩ := Option.map_eq_some_iff.1 h
      simp only [ih hu]
      cases undV x <;> simp
theorem numsO_none {l r : List ByteArray} (h : numsO l = none) : numsO (l ++ r) = none := by
  induction l with
  | nil => simp [numsO] at h
  | cons y t ih =>
    rw [List.cons_append, numsO]
    rw [numsO] at h
    cases hy : undV y with
    | none => rfl
    | some z =>
      rw [hy] at h
      simp only [Option.map_eq_none_iff] at h
      simp only [ih h]
      rfl
theorem sf_step (w wi : World) (gs g6 : Nat) (kk : Nat) (hk : kk < 35) (ws : List ByteArray) (i : Nat) (hi : i < ws.length) (hf : fits (shapeAt kk) ws.length = true) (hz : ∀ x ∈ ws, x.size ≤ 1099511627776) (hn : ws.length ≤ 1099511627776) (h : SfAt w gs g6 (kk : Int) (shapeAt kk) ws i wi) :
    Calls Try.prog 71 (#[.int .i32 ((whatW (shapeAt kk) i).toNat : Int), .string ws[i]] ++ #[.pointer (some ⟨gs, 0, none⟩), .pointer (some ⟨g6, 0, none⟩)]) wi fun e w' => ∃ z : Int, e = .returned (.int .i64 z) ∧ (z = 0 → SfAt w gs g6 (kk : Int) (shapeAt kk) ws (i + 1) w') ∧ (z ≠ 0 → (z = 42 ∧ numsO (ws.take (numN (shapeAt kk) ws.length)) = none ∧ Below w.heap.size w w' ∧ Blk w' w.heap.size 52 #[.int .i64 0, .slice none 0 0, .slice none 0 0, .int .i64 0, .int .i64 0, .int .i64 0, .int .i64 0, .int .i64 0, .int .i64 0])) := by
  obtain ⟨vn, vs, v6, M, hM, ho1, ho2, hX⟩ := h
  have hxz := hz _ (List.getElem_mem hi)
  have hMl := numsO_len hM
  rw [List.length_take] at hMl
  have ht1 : ws.take (i + 1) = ws.take i ++ [ws[i]] := List.take_succ_eq_append_getElem hi
  rcases what_is kk hk ws.length i hf hi with ⟨ho, hw, hlt⟩ | ⟨ho, hw, hlt⟩ | ⟨ho, hw, hge⟩
  · rw [hw]
    obtain rfl := ho1 ho
    rw [if_pos ho, if_pos ho] at hX
    rw [show min i (numN (shapeAt kk) ws.length) = i by omega] at hM
    refine (stepF_o ws[i] w wi hX hxz (by omega)).mono ?_
    rintro e w' (⟨hu, rfl, hb, hB⟩ | ⟨t, hu, rfl, v6', hX'⟩)
    · refine ⟨42, rfl, fun h => absurd h (by decide), fun _ => ⟨rfl, ?_, hb, hB⟩⟩
      have h1 : numsO (ws.take (i + 1)) = none := by rw [ht1, numsO_snoc hM, hu]; rfl
      have h2 : ws.take (numN (shapeAt kk) ws.length) = ws.take (i + 1) ++ (ws.take (numN (shapeAt kk) ws.length)).drop (i + 1) := by
        have := (List.take_append_drop (i + 1) (ws.take (numN (shapeAt kk) ws.length))).symm
        rwa [List.take_take, Nat.min_eq_left (by omega : i + 1 ≤ numN (shapeAt kk) ws.length)] at this
      rw [h2]; exact numsO_none h1
    · refine ⟨0, rfl, fun _ => ⟨_, vs, v6', M ++ [t], ?_, fun _ => rfl, fun h => absurd (ho.symm.trans h) (by simp), ?_⟩, fun h => absurd rfl h⟩
      · rw [show min (i + 1) (numN (shapeAt kk) ws.length) = i + 1 by omega, ht1, numsO_snoc hM, hu]; rfl
      · rw [if_pos ho, if_pos ho, show i + 1 - numN (shapeAt kk) ws.length = i - numN (shapeAt kk) ws.length by omega]
        exact hX'
  · obtain rfl := ho2 ho
    rw [if_neg (by rw [ho]; simp), if_neg (by rw [ho]; simp)] at hX
    rw [show min i (numN (shapeAt kk) ws.length) = i by omega] at hM
    have key : ∀ (e : Ending) (w' : World), ((undV ws[i] = none ∧ e = .returned (.int .i64 42) ∧ Below w.heap.size w w' ∧ Blk w' w.heap.size 52 #[.int .i64 0, .slice none 0 0, .slice none 0 0, .int .i64 0, .int .i64 0, .int .i64 0, .int .i64 0, .int .i64 0, .int .i64 0]) ∨ ∃ t, undV ws[i] = some t ∧ e = .returned (.int .i64 0) ∧ ∃ vn', SfI w w' gs g6 (kk : Int) vn' vs (.slice none 0 0) (M ++ [t]) ((ws.drop (numN (shapeAt kk) ws.length)).take (i - numN (shapeAt kk) ws.length)) []) →
        ∃ z : Int, e = .returned (.int .i64 z) ∧ (z = 0 → SfAt w gs g6 (kk : Int) (shapeAt kk) ws (i + 1) w') ∧ (z ≠ 0 → (z = 42 ∧ numsO (ws.take (numN (shapeAt kk) ws.length)) = none ∧ Below w.heap.size w w' ∧ Blk w' w.heap.size 52 #[.int .i64 0, .slice none 0 0, .slice none 0 0, .int .i64 0, .int .i64 0, .int .i64 0, .int .i64 0, .int .i64 0, .int .i64 0])) := by
      rintro e w' (⟨hu, rfl, hb, hB⟩ | ⟨t, hu, rfl, vn', hX'⟩)
      · refine ⟨42, rfl, fun h => absurd h (by decide), fun _ => ⟨rfl, ?_, hb, hB⟩⟩
        have h1 : numsO (ws.take (i + 1)) = none := by rw [ht1, numsO_snoc hM, hu]; rfl
        have h2 : ws.take (numN (shapeAt kk) ws.length) = ws.take (i + 1) ++ (ws.take (numN (shapeAt kk) ws.length)).drop (i + 1) := by
          have := (List.take_append_drop (i + 1) (ws.take (numN (shapeAt kk) ws.length))).symm
          rwa [List.take_take, Nat.min_eq_left (by omega : i + 1 ≤ numN (shapeAt kk) ws.length)] at this
        rw [h2]; exact numsO_none h1
      · refine ⟨0, rfl, fun _ => ⟨vn', vs, _, M ++ [t], ?_, fun h => absurd (ho.symm.trans h) (by simp), fun _ => rfl, ?_⟩, fun h => absurd rfl h⟩
        · rw [show min (i + 1) (numN (shapeAt kk) ws.length) = i + 1 by omega, ht1, numsO_snoc hM, hu]; rfl
        · rw [if_neg (by rw [ho]; simp), if_neg (by rw [ho]; simp), show i + 1 - numN (shapeAt kk) ws.length = i - numN (shapeAt kk) ws.length by omega]
          exact hX'
    rcases hw with hw | hw
    · rw [hw]
      exact (stepF_n ws[i] w wi hX hxz (by omega)).mono fun e w' h => key e w' h
    · rw [hw]
      exact (stepF_N ws[i] w wi hX hxz (by omega)).mono fun e w' h => key e w' h
  · have hTl : ((ws.drop (numN (shapeAt kk) ws.length)).take (i - numN (shapeAt kk) ws.length)).length ≤ 1099511627776 := by rw [List.length_take, List.length_drop]; omega
    have ht2 : (ws.drop (numN (shapeAt kk) ws.length)).take (i + 1 - numN (shapeAt kk) ws.length) = (ws.drop (numN (shapeAt kk) ws.length)).take (i - numN (shapeAt kk) ws.length) ++ [ws[i]] := by
      rw [show i + 1 - numN (shapeAt kk) ws.length = (i - numN (shapeAt kk) ws.length) + 1 by omega, List.take_succ_eq_append_getElem (by rw [List.length_drop]; omega), List.getElem_drop]
      congr 2
      simp only [show numN (shapeAt kk) ws.length + (i - numN (shapeAt kk) ws.length) = i by omega]
    have key : ∀ (e : Ending) (w' : World), (e = .returned (.int .i64 0) ∧ ∃ vs', SfI w w' gs g6 (kk : Int) vn vs' v6 (if (shapeAt kk).opts = true then [] else M) ((ws.drop (numN (shapeAt kk) ws.length)).take (i - numN (shapeAt kk) ws.length) ++ [ws[i]]) (if (shapeAt kk).opts = true then M else [])) →
        ∃ z : Int, e = .returned (.int .i64 z) ∧ (z = 0 → SfAt w gs g6 (kk : Int) (shapeAt kk) ws (i + 1) w') ∧ (z ≠ 0 → (z = 42 ∧ numsO (ws.take (numN (shapeAt kk) ws.length)) = none ∧ Below w.heap.size w w' ∧ Blk w' w.heap.size 52 #[.int .i64 0, .slice none 0 0, .slice none 0 0, .int .i64 0, .int .i64 0, .int .i64 0, .int .i64 0, .int .i64 0, .int .i64 0])) := by
      rintro e w' ⟨rfl, vs', hX'⟩
      refine ⟨0, rfl, fun _ => ⟨vn, vs', v6, M, ?_, ho1, ho2, ?_⟩, fun h => absurd rfl h⟩
      · rw [show min (i + 1) (numN (shapeAt kk) ws.length) = min i (numN (shapeAt kk) ws.length) by omega]; exact hM
      · rw [ht2]; exact hX'
    rcases hw with hw | hw
    · rw [hw]
      exact (stepF_s ws[i] w wi hX hTl).mono fun e w' h => key e w' h
    · rw [hw]
      exact (stepF_S ws[i] w wi hX hTl).mono fun e w' h => key e w' h
end Go.Proofs.Ytaomecinemmdgaa

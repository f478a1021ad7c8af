/-
  THE PLAIN LAWS of notes: what is written is read back; what is read is written so; opened signatures.
-/
import Derived.Test.YtnkkpfomoodmjaaGreatDoorRows
import Derived.Test.YtnkkpfomoodmjaaGreatDoorGBase
import Derived.Test.YtnkkpfomoodmjaaGreatDoorGRd
import Derived.Test.YtnkkpfomoodmjaaGreatDoorGRSg
import Derived.Test.YtnkkpfomoodmjaaGreatDoorSWritten
import Derived.Test.YtnkkpfomoodmjaaGreatDoorGKs
import Derived.Test.YtnkkpfomoodmjaaGreatDoorGOp
set_option linter.unusedVariables false
set_option linter.unusedSimpArgs false
namespace Go.Proofs.YtnkkpfomoodmjaaGreatDoor
open Go.RowKit
/-- A signature's line without its newline. -/
def lineL (x : SigR) : List UInt8 := [226, 128, 148, 32] ++ x.nm.data.toList ++ 32 :: b64L (x.id.data.toList ++ x.mc.data.toList)
theorem sigLine_list (x : SigR) : (sigLine x).data.toList = lineL x ++ [10] := by
  unfold sigLine lineL
  simp only [ByteArray.data_append, Array.toList_append]
  show _ ++ _ ++ _ ++ (b64S (x.id ++ x.mc)).data.toList ++ _ = _
  have e : (b64S (x.id ++ x.mc)).data.toList = b64L (x.id.data.toList ++ x.mc.data.toList) := by
    unfold b64S
    simp [ByteArray.data_append]
  rw [e]
  simp
theorem sigsL_join (S : List SigR) : sigsL S = joinL (S.map lineL) := by
  unfold sigsL joinL
  rw [List.flatMap_map]
  congr 1
  funext x
  exact sigLine_list x
theorem name_no {s : ByteArray} (h : nameOk s = true) {c : UInt8} (hc : c ∈ s.data.toList) : 32 < c.toNat ∧ c.toNat < 127 := by
  unfold nameOk nameAll at h
  simp only [Bool.and_eq_true, List.all_eq_true] at h
  have := h.2 c hc
  unfold nameByte at this
  simp at this
  omega
theorem bareL_no (l : List UInt8) {c : UInt8} (hc : c ∈ bareL l) : c ≠ 10 ∧ c ≠ 32 := by
  have h := (bare_valid l c hc).1
  constructor
  · rintro rfl; exact h (by decide)
  · rintro rfl; exact h (by decide)
theorem b64L_no (l : List UInt8) {c : UInt8} (hc : c ∈ b64L l) : c ≠ 10 ∧ c ≠ 32 := by
  rw [b64L_bare] at hc
  rcases List.mem_append.1 hc with h | h
  · exact bareL_no l h
  · have := List.eq_of_mem_replicate h
    subst this
    decide
theorem lineL_free {x : SigR} (h : nameOk x.nm = true) : lineL x ≠ [] ∧ (10 : UInt8) ∉ lineL x := by
  refine ⟨by simp [lineL], fun hm => ?_⟩
  unfold lineL at hm
  rcases List.mem_append.1 hm with hm | hm
  · rcases List.mem_append.1 hm with hm | hm
    · revert hm; decide
    · have := (name_no h hm).1; exact absurd this (by decide)
  · rcases List.mem_cons.1 hm with hm | hm
    · revert hm; decide
    · exact (b64L_no _ hm).1 rfl
theorem first_split (c : UInt8) : ∀ r : List UInt8, c ∉ r ∨ ∃ a b, r = a ++ c :: b ∧ c ∉ a
  | [] => .inl (by simp)
  | x :: r => by
    by_cases hx : x = c
    · subst hx; exact .inr ⟨[], r, rfl, by simp⟩
    · rcases first_split c r with h | ⟨a, b, rfl, h⟩
      · exact .inl (by simp [h]; exact fun e => hx e.symm)
      · exact .inr ⟨x :: a, b, rfl, by simp [h]; exact fun e => hx e.symm⟩
theorem cut_split {a b : List UInt8} (h : (32 : UInt8) ∉ a) : Lib.cut (a ++ 32 :: b) [32] = (a, b, true) := by
  have h1 := cut_at (a ++ 32 :: b) a.length (by simp) (by simp) (fun j hj hlt e => h (by
    rw [List.getElem_append_left hlt] at e
    rw [← e]; exact List.getElem_mem _))
  rw [h1, List.take_left, show a.length + 1 = (a ++ [32]).length from by simp, show a ++ 32 :: b = a ++ [32] ++ b from by simp, List.drop_left]
theorem cut_free {r : List UInt8} (h : (32 : UInt8) ∉ r) : Lib.cut r [32] = (r, [], false) :=
  cut_no r (fun j hj e => h (by rw [← e]; exact List.getElem_mem _))
/-- A line that is written is read. -/
theorem sigP_line {x : SigR} (hn : nameOk x.nm = true) (ho : SigOk x) : sigP (bsL (lineL x)) = some x := by
  have hl : (bsL (lineL x)).data.toList = lineL x := by simp [bsL]
  have hp : Lib.hasPrefix (lineL x) [226, 128, 148, 32] = true := by
    unfold Lib.hasPrefix lineL
    rw [List.isPrefixOf_iff_prefix]
    exact ⟨_, (List.append_assoc _ _ _).symm⟩
  have hd : (lineL x).drop 4 = x.nm.data.toList ++ 32 :: b64L (x.id.data.toList ++ x.mc.data.toList) := by
    unfold lineL; simp
  have h32 : (32 : UInt8) ∉ x.nm.data.toList := fun hm => absurd (name_no hn hm).1 (by decide)
  unfold sigP
  rw [hl, if_pos hp, hd, cut_split h32, if_pos rfl]
  unfold sigOf2
  have e1 : (⟨x.nm.data.toList.toArray⟩ : ByteArray) = x.nm := by simp
  have e2 : unb64V ⟨(b64L (x.id.data.toList ++ x.mc.data.toList)).toArray⟩ = some (x.id ++ x.mc) := unb64V_of (by
    unfold b64S
    simp [ByteArray.data_append])
  simp only
  rw [e1, if_pos hn, e2]
  obtain ⟨h1, h2, h3⟩ := ho
  have e3 : (x.id ++ x.mc).size = 36 := by rw [ByteArray.size_append]; omega
  simp only
  rw [if_pos e3]
  have e4 : (x.id ++ x.mc).extract 0 4 = x.id := by
    rw [← h2]; exact ByteArray.extract_append_eq_left rfl
  have e5 : (x.id ++ x.mc).extract 4 36 = x.mc := by
    rw [← e3, ← h2]
    exact ByteArray.extract_append_eq_right rfl ByteArray.size_append
  rw [e4, e5]
/-- A line that is read is written so. -/
theorem sigP_some {l : ByteArray} {x : SigR} (h : sigP l = some x) : l.data.toList = lineL x ∧ nameOk x.nm = true := by
  have h0 := h
  unfold sigP at h
  split at h
  · rename_i hp
    unfold Lib.hasPrefix at hp
    rw [List.isPrefixOf_iff_prefix] at hp
    obtain ⟨r, hr⟩ := hp
    have hd : l.data.toList.drop 4 = r := by rw [← hr]; rfl
    rw [hd] at h
    rcases first_split 32 r with hf | ⟨a, b, rfl, hf⟩
    · rw [cut_free hf] at h
      simp at h
    · rw [cut_split hf, if_pos rfl] at h
      unfold sigOf2 at h
      split at h
      · rename_i hn
        split at h
        · rename_i y hy
          split at h
          · rename_i h36
            injection h with h
            have hb := unb64V_some hy
            have hcat : y.extract 0 4 ++ y.extract 4 36 = y := by
              rw [ByteArray.extract_append_extract]
              · simp [← h36]
            subst h
            refine ⟨?_, hn⟩
            unfold lineL
            rw [← hr]
            have e1 : b = b64L ((y.extract 0 4).data.toList ++ (y.extract 4 36).data.toList) := by
              have h3 := congrArg (fun z : ByteArray => z.data.toList) hb
              simp only at h3
              have h4 : (y.extract 0 4).data.toList ++ (y.extract 4 36).data.toList = y.data.toList := by
                rw [← Array.toList_append, ← ByteArray.data_append, hcat]
              rw [h4]
              exact h3.symm
            rw [← e1]
            simp
          · cases h
        · cases h
      · cases h
  · cases h
theorem part_any : ∀ L : List UInt8, ∃ z, PartIs L z
  | [] => ⟨-1, .inl ⟨rfl, trivial⟩⟩
  | a :: r => by
    obtain ⟨z, h⟩ := part_any r
    rcases h with ⟨rfl, h⟩ | ⟨u, v, rfl, h1, h2, rfl⟩
    · by_cases hc : a = 10 ∧ r.head? = some 10
      · obtain ⟨rfl, hc2⟩ := hc
        cases r with
        | nil => simp at hc2
        | cons b t =>
          simp at hc2
          subst hc2
          exact ⟨1, .inr ⟨[10], t, rfl, rfl, h, rfl⟩⟩
      · exact ⟨-1, .inl ⟨rfl, hc, h⟩⟩
    · refine ⟨((a :: u).length : Nat), .inr ⟨a :: u, v, rfl, ?_, h2, rfl⟩⟩
      obtain ⟨t, rfl⟩ := List.getLast?_eq_some_iff.1 h1
      rw [← List.cons_append]
      exact List.getLast?_concat
theorem linesV_all {s : ByteArray} {es : List ByteArray} (h : linesV s = some es) : s.data.toList = joinL (es.map (·.data.toList)) := by
  have hll : s.data.toList.length = s.size := Array.length_toList
  unfold linesV at h
  split at h
  · injection h with h
    subst h
    rename_i h0
    have h1 : s.data.toList = [] := List.eq_nil_of_length_eq_zero (by omega)
    rw [h1]; rfl
  · split at h
    · rename_i hl
      injection h with h
      subst h
      obtain ⟨t, ht⟩ := List.getLast?_eq_some_iff.1 hl
      rw [ht, List.dropLast_concat, List.map_map]
      have e : (fun x : ByteArray => x.data.toList) ∘ bsL = id := by funext x; simp [bsL]
      rw [e, List.map_id]
      exact (splL_join 10 t).symm
    · cases h
theorem writL_join (t : ByteArray) (S : List SigR) : writL t S = t.data.toList ++ 10 :: joinL (S.map lineL) := by
  unfold writL; rw [sigsL_join]; simp
/-- WHAT IS WRITTEN IS READ BACK. -/
theorem read_back {t : ByteArray} {S : List SigR} (hg : goesV t = true) (hS : ∀ x ∈ S, nameOk x.nm = true ∧ SigOk x) (hp : S.Pairwise (fun x y => sameKey x y = false)) (h1 : 1 ≤ S.length) (h16 : S.length ≤ 16) :
    readV (writB t S) = some (t, S) := by
  have hL : (writB t S).data.toList = t.data.toList ++ 10 :: joinL (S.map lineL) := by
    rw [← writL_join]; simp [writB]
  have hlast : t.data.toList.getLast? = some 10 := by
    unfold goesV at hg
    exact of_decide_eq_true (Bool.and_eq_true_iff.1 hg).1
  have hfree : ∀ y ∈ S.map lineL, y ≠ [] ∧ (10 : UInt8) ∉ y := fun y hy => by
    obtain ⟨x, hx, rfl⟩ := List.mem_map.1 hy
    exact lineL_free (hS x hx).1
  have hpt : PartIs (writB t S).data.toList (t.data.toList.length : Int) := .inr ⟨_, _, hL, hlast, noTwo_lines hfree, rfl⟩
  rw [← read_same _ _ hpt]
  unfold refV
  rw [if_neg (by omega), Int.toNat_natCast]
  have hw : writB t S = bsL (t.data.toList ++ 10 :: joinL (S.map lineL)) := by rw [← hL, bsL_toList]
  have e1 : (writB t S).extract 0 t.data.toList.length = t := by
    rw [hw, bsL_extract, List.take_left]; simp [bsL]
  have e2 : (writB t S).extract (t.data.toList.length + 1) (writB t S).size = bsL (joinL (S.map lineL)) := by
    rw [hw, bsL_extract, bsL_size, List.take_of_length_le (Nat.le_refl _)]
    congr 1
    rw [show t.data.toList.length + 1 = (t.data.toList ++ [10]).length from by simp, show t.data.toList ++ 10 :: joinL (S.map lineL) = t.data.toList ++ [10] ++ joinL (S.map lineL) from by simp]
    exact List.drop_left
  rw [e1, e2, if_pos hg, linesV_join _ (fun x hx => (hfree x hx).2)]
  simp only [List.length_map]
  rw [if_neg (by omega)]
  have h2 : rdFw ((S.map lineL).map bsL) [] = some S := by
    refine (rdFw_iff _ _ _).2 ⟨S, by simp, ?_, hp, by simp⟩
    rw [List.map_map, List.map_map]
    refine List.map_congr_left fun x hx => ?_
    exact sigP_line (hS x hx).1 (hS x hx).2
  rw [h2]
  rfl
/-- WHAT IS READ IS WRITTEN SO. -/
theorem read_only {note t : ByteArray} {S : List SigR} (h : readV note = some (t, S)) : note = writB t S ∧ goesV t = true ∧ (∀ x ∈ S, nameOk x.nm = true ∧ SigOk x) ∧ S.Pairwise (fun x y => sameKey x y = false) ∧ 1 ≤ S.length ∧ S.length ≤ 16 := by
  obtain ⟨hok, h1, h16, hg, -⟩ := readV_ok h
  obtain ⟨z, hz⟩ := part_any note.data.toList
  rw [← read_same note z hz] at h
  rcases hz with ⟨rfl, -⟩ | ⟨u, v, hu, hl, hn, rfl⟩
  · unfold refV at h; rw [if_pos (by decide)] at h; cases h
  · have hnote : note = bsL (u ++ 10 :: v) := by rw [← hu, bsL_toList]
    unfold refV at h
    rw [if_neg (by omega), Int.toNat_natCast] at h
    have e1 : note.extract 0 u.length = bsL u := by rw [hnote, bsL_extract, List.take_left]; rfl
    have e2 : note.extract (u.length + 1) note.size = bsL v := by
      rw [hnote, bsL_extract, bsL_size, List.take_of_length_le (Nat.le_refl _)]
      congr 1
      rw [show u.length + 1 = (u ++ [10]).length from by simp, show u ++ 10 :: v = u ++ [10] ++ v from by simp]
      exact List.drop_left
    rw [e1, e2] at h
    split at h
    · split at h
      · cases h
      · rename_i Ls hLs
        split at h
        · cases h
        · cases hf : rdFw Ls [] with
          | none => rw [hf] at h; cases h
          | some S' =>
            rw [hf] at h
            simp only [Option.map_some, Option.some.injEq, Prod.mk.injEq] at h
            obtain ⟨rfl, rfl⟩ := h
            obtain ⟨T, e3, hm, hp, -⟩ := (rdFw_iff _ _ _).1 hf
            rw [List.nil_append] at e3
            subst e3
            have hv := linesV_all hLs
            have hmem : ∀ x ∈ S', nameOk x.nm = true := fun x hx => by
              obtain ⟨l, _, hl2⟩ := List.mem_map.1 (show some x ∈ Ls.map sigP from by rw [hm]; exact List.mem_map_of_mem hx)
              exact (sigP_some hl2).2
            have hlines : ∀ (Ls : List ByteArray) (T : List SigR), Ls.map sigP = T.map some → Ls.map (·.data.toList) = T.map lineL := by
              intro Ls
              induction Ls with
              | nil => intro T h; cases T with
                | nil => rfl
                | cons y t => simp at h
              | cons l r ih => intro T h; cases T with
                | nil => simp at h
                | cons y t =>
                  simp only [List.map_cons, List.cons.injEq] at h ⊢
                  exact ⟨(sigP_some h.1).1, ih t h.2⟩
            rw [hlines Ls S' hm] at hv
            have hv2 : v = joinL (S'.map lineL) := by simpa [bsL] using hv
            refine ⟨?_, hg, fun x hx => ⟨hmem x hx, hok x hx⟩, hp, h1, h16⟩
            rw [hnote, hv2]
            unfold writB
            rw [writL_join]
            simp [bsL]
    · cases h
end Go.Proofs.YtnkkpfomoodmjaaGreatDoor

/-
  CONTRACT of the document's Escape.
-/
import Derived.Test.YtnkioabdpploeaaGreatDoorRows
import Derived.StillTailTactics
import Derived.Deep.RegionHeld3
import Derived.Deep.RegionLaw
import Derived.Test.YtnkioabdpploeaaGreatDoorGBase
import Derived.Test.YtnkioabdpploeaaGreatDoorGDecs
import Derived.Test.YtnkioabdpploeaaGreatDoorSPlayP
set_option linter.unusedVariables false
set_option linter.unusedSimpArgs false
namespace Go.Proofs.YtnkioabdpploeaaGreatDoor
open Go.RowKit Go.Lib
def escP (s : ByteArray) (k : Nat) : ByteArray := ⟨((s.data.toList.take k).flatMap escB).toArray⟩
theorem escP_next (s : ByteArray) (k : Nat) (hk : k < s.size) : escP s (k + 1) = escP s k ++ ⟨(escB s[k]).toArray⟩ := by
  apply bs_eq
  have hkl : k < s.data.toList.length := by rw [Array.length_toList]; exact hk
  unfold escP
  rw [ByteArray.data_append, Array.toList_append]
  simp only []
  rw [List.take_succ_eq_append_getElem hkl, List.flatMap_append]
  simp
  rfl
theorem escP_size (s : ByteArray) (k : Nat) : (escP s k).size ≤ 3 * s.size := by
  have h := escL_len (s.data.toList.take k)
  have hll : s.data.toList.length = s.size := Array.length_toList
  rw [List.length_take] at h
  show (((s.data.toList.take k).flatMap escB).toArray).size ≤ _
  rw [List.size_toArray]
  omega
theorem hex_cut (v : Nat) (h : v < 16) : hexS.extract v (v + 1) = ⟨#[hexB v]⟩ := by
  have e : ∀ n : Fin 16, (hexS.extract n.val (n.val + 1)).data.toList = [hexB n.val] := by decide
  exact bs_eq (e ⟨v, h⟩)
theorem extract_one (s : ByteArray) (k : Nat) (hk : k < s.size) : s.extract k (k + 1) = ⟨#[s[k]]⟩ := by
  apply bs_eq
  have hkl : k < s.data.toList.length := by rw [Array.length_toList]; exact hk
  rw [ByteArray.data_extract, Array.toList_extract]
  show (s.data.toList.drop k).take (k + 1 - k) = _
  rw [show k + 1 - k = 1 from by omega, List.drop_eq_getElem_cons hkl]
  rfl
set_option maxRecDepth 100000 in
set_option maxHeartbeats 2000000 in
theorem rescape_any (s : ByteArray) (w : World) (hs : s.size ≤ 1099511627776) :
    Calls Tryz.prog 44 #[.string s] w fun e w' => e = .returned (.string (escS s)) ∧ Below w.heap.size w w' := by
  have hll : s.data.toList.length = s.size := Array.length_toList
  rcases Nat.eq_zero_or_pos s.size with h0 | h0
  · have hse : s = ⟨#[]⟩ := by apply ByteArray.ext; exact Array.eq_empty_of_size_eq_zero h0
    have h7 : s.toList = [] := by rw [hse]; simp
    have h8 : s.toList.isEmpty = true := by rw [h7]; rfl
    have hr : escS s = ⟨#[37]⟩ := by rw [hse]; rfl
    rw [hr]
    clear hr hse
    go_enter Tryz.func44, Tryz.ntmps44
    go_wp2_with fail
    go_ret
    exact ⟨rfl, Below.refl _ _⟩
  · have h7 : ¬ s.toList = [] := fun hh => by
      have h3 := toList_ne (a := s) (b := ⟨#[]⟩) (fun e => by rw [e] at h0; exact absurd h0 (by decide))
      rw [hh] at h3; simp at h3
    have h8 : s.toList.isEmpty = false := by cases hh : s.toList with | nil => exact absurd hh h7 | cons _ _ => rfl
    have hr : Hid (escS s = escP s s.size) := by
      have hne : s.data.toList ≠ [] := fun e => by rw [e] at hll; simp at hll; omega
      show escS s = _
      unfold escS escL escP
      rw [if_neg hne, List.take_of_length_le (by omega)]
    go_enter Tryz.func44, Tryz.ntmps44
    go_wp2_with fail
    obtain ⟨z, hz⟩ : ∃ z, Hid (escP s 0 = z) := ⟨_, Lib.hid rfl⟩
    have hz0 : (⟨#[]⟩ : ByteArray) = z := by rw [← hz.out]; unfold escP; simp
    go_loopw [3, 4] (fun o i wr => ∃ k nd : Nat, k ≤ s.size ∧ i = .int .i64 (k : Int) ∧ o = .string (escP s k) ∧ Hid (wr = w.drewN nd)) (fun _ i _ => s.size - (RowKit.intOf i).toNat)
    case atStart => exact ⟨0, 0, by omega, rfl, by rw [hz.out, hz0], Lib.hid rfl⟩
    case round =>
      clear hz hz0
      obtain ⟨k, nd, hk, rfl, rfl, hw⟩ := hrel
      have hw' := hw.out
      subst hw'
      rcases Nat.lt_or_ge k s.size with hlt | hge
      · have t1 : (k : Int) < (s.size : Int) := by omega
        have t0 : (0 : Int) ≤ (k : Int) := by omega
        have hnx := escP_next s k hlt
        have hsz := escP_size s k
        have hnx' := Lib.hid hnx
        clear hnx
        obtain ⟨o, ho⟩ : ∃ o, Hid (escP s k = o) := ⟨_, Lib.hid rfl⟩
        rw [ho.out] at hsz hnx' ⊢
        obtain ⟨c, hc⟩ : ∃ c, Hid (s[k] = c) := ⟨_, Lib.hid rfl⟩
        have hsk : s[k] = c := hc.out
        have hcl := c.toNat_lt
        have hx1 : s.extract k (k + 1) = ⟨#[c]⟩ := by rw [← hc.out]; exact extract_one s k hlt
        have y1 : ¬ 9223372036854775807 < o.size + 1 := by omega
        have y2 : ¬ 9223372036854775807 < o.size + 1 + 1 := by omega
        have y3 : ¬ 9223372036854775807 < o.size + 1 + 1 + 1 := by omega
        have z1 : (⟨#[37]⟩ : ByteArray).size = 1 := rfl
        rw [hc.out] at hnx'
        by_cases hp : 32 < c.toNat ∧ c.toNat < 127 ∧ c ≠ 37
        · obtain ⟨p1, p2, p3⟩ := hp
          have q1 : (33 : Int) ≤ (c.toNat : Int) := by omega
          have q2 : (c.toNat : Int) ≤ 126 := by omega
          have q3 : ((c.toNat : Int) == 37) = false := by
            rw [beq_eq_false_iff_ne]
            intro e
            exact p3 (UInt8.toNat_inj.1 (by show c.toNat = 37; omega))
          have hcb1 : escB c = [c] := by unfold escB; rw [if_pos ⟨p1, p2, p3⟩]
          go_wp2_with fail
          exact ⟨⟨k + 1, nd, by omega, by go_num, by rw [hnx'.out, hcb1], Lib.hid rfl⟩, by simp [RowKit.intOf]; omega⟩
        · have hcb : escB c = [37, hexB (c.toNat / 16), hexB (c.toNat % 16)] := by unfold escB; rw [if_neg hp]
          have hs1 : ∀ W, Calls Tryz.prog 67 #[.string ⟨#[48, 49, 50, 51, 52, 53, 54, 55, 56, 57, 65, 66, 67, 68, 69, 70]⟩, .int .i64 ((c.toNat : Int) / 16)] W fun e w' => e = .returned (.string ⟨#[hexB (c.toNat / 16)]⟩) ∧ W = w' := fun W => by
            have h := sign_any hexS (c.toNat / 16) W (by show c.toNat / 16 < 16; omega) (by decide)
            rw [hex_cut _ (by omega), show ((c.toNat / 16 : Nat) : Int) = (c.toNat : Int) / 16 from by omega] at h
            exact h
          have hs2 : ∀ W, Calls Tryz.prog 67 #[.string ⟨#[48, 49, 50, 51, 52, 53, 54, 55, 56, 57, 65, 66, 67, 68, 69, 70]⟩, .int .i64 ((c.toNat : Int) % 16)] W fun e w' => e = .returned (.string ⟨#[hexB (c.toNat % 16)]⟩) ∧ W = w' := fun W => by
            have h := sign_any hexS (c.toNat % 16) W (by show c.toNat % 16 < 16; omega) (by decide)
            rw [hex_cut _ (by omega), show ((c.toNat % 16 : Nat) : Int) = (c.toNat : Int) % 16 from by omega] at h
            exact h
          have HS1 := hide hs1; have HS2 := hide hs2; clear hs1 hs2
          have hbs : Hid (o ++ ⟨[37, hexB (c.toNat / 16), hexB (c.toNat % 16)].toArray⟩ = o ++ ⟨#[37]⟩ ++ ⟨#[hexB (c.toNat / 16)]⟩ ++ ⟨#[hexB (c.toNat % 16)]⟩) := by
            rw [Hid, ByteArray.append_assoc, ByteArray.append_assoc]; rfl
          have e1 : IntKind.i64.wrap (c.toNat : Int) = (c.toNat : Int) := by rw [IntKind.wrap_i64]; omega
          have e2 : IntKind.i64.wrap ((c.toNat : Int).tdiv 16) = (c.toNat : Int) / 16 := by rw [IntKind.wrap_i64, Int.tdiv_eq_ediv_of_nonneg (by omega)]; omega
          have e3 : IntKind.i64.wrap ((c.toNat : Int).tmod 16) = (c.toNat : Int) % 16 := by rw [IntKind.wrap_i64, Int.tmod_eq_emod_of_nonneg (by omega)]; omega
          have e4 : IntKind.i64.wrap ((c.toNat : Int) / 16) = (c.toNat : Int) / 16 := by rw [IntKind.wrap_i64]; omega
          have e5 : IntKind.i64.wrap ((c.toNat : Int) % 16) = (c.toNat : Int) % 16 := by rw [IntKind.wrap_i64]; omega
          have e6 : (c.toNat : Int).tmod 16 = (c.toNat : Int) % 16 := Int.tmod_eq_emod_of_nonneg (by omega)
          have z2 : (⟨#[hexB (c.toNat / 16)]⟩ : ByteArray).size = 1 := rfl
          have z3 : (⟨#[hexB (c.toNat % 16)]⟩ : ByteArray).size = 1 := rfl
          by_cases hp1 : 32 < c.toNat
          · have q1 : (33 : Int) ≤ (c.toNat : Int) := by omega
            by_cases hp2 : c.toNat < 127
            · have hp3 : c.toNat = 37 := by
                by_cases h : c = 37
                · rw [h]; rfl
                · exact absurd ⟨hp1, hp2, h⟩ hp
              have q2 : (c.toNat : Int) ≤ 126 := by omega
              have q3 : ((c.toNat : Int) == 37) = true := by rw [beq_iff_eq]; omega
              clear hp hp3
              go_wp2_with fail
              go_region_held3 (fun _ => True) (trivial) (first
                | (go_at_call 67; (with_reducible refine ((unhide HS1) _).mono ?_); rintro e w2 ⟨rfl, rfl⟩)
                | (go_at_call 67; (with_reducible refine ((unhide HS2) _).mono ?_); rintro e w2 ⟨rfl, rfl⟩))
              all_goals
                go_wp2_with fail
                exact ⟨⟨k + 1, nd + 1, by omega, by go_num, by rw [hnx'.out, hcb, hbs.out], Lib.hid rfl⟩, by simp [RowKit.intOf]; omega⟩
            · have q2 : ¬ (c.toNat : Int) ≤ 126 := by omega
              clear hp
              go_wp2_with fail
              go_region_held3 (fun _ => True) (trivial) (first
                | (go_at_call 67; (with_reducible refine ((unhide HS1) _).mono ?_); rintro e w2 ⟨rfl, rfl⟩)
                | (go_at_call 67; (with_reducible refine ((unhide HS2) _).mono ?_); rintro e w2 ⟨rfl, rfl⟩))
              all_goals
                go_wp2_with fail
                exact ⟨⟨k + 1, nd + 1, by omega, by go_num, by rw [hnx'.out, hcb, hbs.out], Lib.hid rfl⟩, by simp [RowKit.intOf]; omega⟩
          · have q1 : ¬ (33 : Int) ≤ (c.toNat : Int) := by omega
            clear hp
            go_wp2_with fail
            go_region_held3 (fun _ => True) (trivial) (first
              | (go_at_call 67; (with_reducible refine ((unhide HS1) _).mono ?_); rintro e w2 ⟨rfl, rfl⟩)
              | (go_at_call 67; (with_reducible refine ((unhide HS2) _).mono ?_); rintro e w2 ⟨rfl, rfl⟩))
            all_goals
              go_wp2_with fail
              exact ⟨⟨k + 1, nd + 1, by omega, by go_num, by rw [hnx'.out, hcb, hbs.out], Lib.hid rfl⟩, by simp [RowKit.intOf]; omega⟩
      · have t1 : ¬ (k : Int) < (s.size : Int) := by omega
        have hks : k = s.size := by omega
        go_wp2_with fail
        go_ret
        exact ⟨by rw [hr.out]; rfl, below_drewN (Below.refl _ _) nd⟩
end Go.Proofs.YtnkioabdpploeaaGreatDoor

/-
  CONTRACT of annalsref27.joined.
-/
import Derived.Test.YtnkioabdpploeaaGreatDoorRows
import Derived.Test.YtnkioabdpploeaaGreatDoorGBase
import Derived.Test.YtnkioabdpploeaaGreatDoorSFNums
set_option linter.unusedVariables false
set_option linter.unusedSimpArgs false
namespace Go.Proofs.YtnkioabdpploeaaGreatDoor
open Go.RowKit Go.Lib
def lnJ (T : ByteArray) (l : List ByteArray) : ByteArray := bsL (T.data.toList ++ spaced l)
theorem lnJ_size (T : ByteArray) (l : List ByteArray) : (lnJ T l).size = T.size + (spaced l).length := by
  show (List.toArray _).size = _
  rw [List.size_toArray, List.length_append]
  rw [show T.data.toList.length = T.size from Array.length_toList]
theorem spaced_sub (a b : List ByteArray) : (spaced (a ++ b)).length = (spaced a).length + (spaced b).length := by
  unfold spaced; rw [List.flatMap_append, List.length_append]
theorem spaced_take (l : List ByteArray) (j : Nat) : (spaced (l.take j)).length ≤ (spaced l).length := by
  conv => rhs; rw [← List.take_append_drop j l]
  rw [spaced_sub]; omega
theorem lnJ_app (T : ByteArray) (a b : List ByteArray) : lnJ T (a ++ b) = lnJ (lnJ T a) b := by
  apply bs_eq
  show T.data.toList ++ spaced (a ++ b) = (T.data.toList ++ spaced a) ++ spaced b
  unfold spaced; rw [List.flatMap_append, List.append_assoc]
theorem lnJ_one (T : ByteArray) (x : ByteArray) : lnJ T [x] = T ++ ⟨#[32]⟩ ++ x := by
  apply bs_eq
  show T.data.toList ++ spaced [x] = _
  unfold spaced
  simp [ByteArray.data_append, Array.toList_append]
theorem lnJ_nil (T : ByteArray) : lnJ T [] = T := by
  apply bs_eq
  show T.data.toList ++ spaced [] = _
  simp [spaced]
set_option maxRecDepth 100000 in
set_option maxHeartbeats 1000000 in
theorem rjoined_any (T : ByteArray) (vn vs : Value) (ns : List Int) (ss : List ByteArray) (w : World) (hN : IntsAt w vn ns) (hS : StrsAt w vs ss)
  (hi : ∀ z ∈ ns, In64 z) (hsz : ∀ x ∈ ss, x.size ≤ 1099511627776) (hl : ns.length + ss.length ≤ 1099511627776) (hz : T.size + (spaced (ns.map decS ++ ss.map escS)).length ≤ 140737488355328) :
    Calls Tryz.prog 22 #[.string T, vn, vs] w fun e w' => e = .returned (.string (lnJ T (ns.map decS ++ ss.map escS))) ∧ Below w.heap.size w w' := by
  obtain ⟨A, c, rfl, -⟩ := id hN
  obtain ⟨B, d, rfl, -⟩ := id hS
  have e32 : (⟨#[32]⟩ : ByteArray).size = 1 := rfl
  have hza : (lnJ T (ns.map decS)).size + (spaced (ss.map escS)).length ≤ 140737488355328 := by rw [lnJ_size]; rw [spaced_sub] at hz; omega
  have HZA := Lib.hid hza
  have HN := hide (And.intro hN (And.intro hS (And.intro hi hsz))); have E32 := Lib.hid e32; clear hN hS hi hsz hz e32 hza
  have hn1 : ns.length ≤ 1099511627776 := by omega
  have hn2 : ss.length ≤ 1099511627776 := by omega
  go_enter Tryz.func22, Tryz.ntmps22
  go_wp2_with fail
  go_loopw [0, 7, 8] (fun o i _ W => ∃ (j : Nat), j ≤ ns.length ∧ i = .int .i64 (j : Int) ∧ o = .string (lnJ T ((ns.take j).map decS)) ∧ Hid (W = w)) (fun _ i _ _ => ns.length - (RowKit.intOf i).toNat)
  case atStart => exact ⟨0, Nat.zero_le _, rfl, by rw [List.take_zero, List.map_nil, lnJ_nil], Lib.hid rfl⟩
  case round =>
    obtain ⟨j, hj, rfl, rfl, hw⟩ := hrel
    have hw' := hw.out
    subst hw'
    rcases Nat.lt_or_ge j ns.length with hlt | hge
    · have t0 : (0 : Int) ≤ (j : Int) := by omega
      have t1 : (j : Int) < (ns.length : Int) := by omega
      have qb : j ≤ 1099511627776 := by omega
      obtain ⟨q, rfl, hca⟩ := intsAt_at (unhide HN).1 j hlt
      have hin := (unhide HN).2.2.1 _ (List.getElem_mem hlt)
      have hnx : lnJ T ((ns.take (j + 1)).map decS) = lnJ T ((ns.take j).map decS) ++ ⟨#[32]⟩ ++ decS ns[j] := by
        rw [List.take_succ_eq_append_getElem hlt, List.map_append, lnJ_app]; exact lnJ_one _ _
      have hsz : (lnJ T ((ns.take (j + 1)).map decS)).size ≤ 140737488355328 := by
        have h := HZA.out
        rw [lnJ_size] at h ⊢
        have h2 := spaced_take (ns.map decS) (j + 1)
        rw [← List.map_take] at h2
        omega
      rw [hnx, ByteArray.size_append, ByteArray.size_append, E32.out] at hsz
      have hd := rdec_any ns[j] wr hin.1 hin.2
      have HNX := Lib.hid hnx
      clear hnx
      generalize ns[j] = x at *
      generalize lnJ T ((ns.take j).map decS) = S at *
      have y1 : ¬ 9223372036854775807 < S.size + 1 := by omega
      have y2 : ¬ 9223372036854775807 < S.size + 1 + (decS x).size := by omega
      have y3 : ¬ 9223372036854775807 < (S ++ ⟨#[32]⟩ : ByteArray).size + (decS x).size := by rw [ByteArray.size_append, E32.out]; exact y2
      have HD := hide hd
      clear hd hin hsz
      go_wp2_with fail
      refine (unhide HD).mono ?_
      rintro e1 w1 ⟨rfl, rfl⟩
      clear HD
      go_wp2_with fail
      exact ⟨⟨j + 1, by omega, by go_num, by rw [HNX.out], Lib.hid (by first | trivial | rfl)⟩, by simp [RowKit.intOf]; omega⟩
    · have t1 : ¬ (j : Int) < (ns.length : Int) := by omega
      rw [List.take_of_length_le hge]
      obtain ⟨T1, hT1⟩ : ∃ T1, Hid (lnJ T (ns.map decS) = T1) := ⟨_, Lib.hid rfl⟩
      rw [hT1.out] at HZA ⊢
      go_wp2_with fail
      go_loopw [0, 9, 10] (fun o i _ W => ∃ (j : Nat), j ≤ ss.length ∧ i = .int .i64 (j : Int) ∧ o = .string (lnJ T1 ((ss.take j).map escS)) ∧ Below wr.heap.size wr W) (fun _ i _ _ => ss.length - (RowKit.intOf i).toNat)
      case atStart => exact ⟨0, Nat.zero_le _, rfl, by rw [List.take_zero, List.map_nil, lnJ_nil], Below.refl _ _⟩
      case round =>
        obtain ⟨j2, hj2, rfl, rfl, hb⟩ := hrel
        rcases Nat.lt_or_ge j2 ss.length with hlt | hge2
        · have t0 : (0 : Int) ≤ (j2 : Int) := by omega
          have t2 : (j2 : Int) < (ss.length : Int) := by omega
          have qb : j2 ≤ 1099511627776 := by omega
          obtain ⟨q, rfl, hca⟩ := strs_at ((unhide HN).2.1.below hb) j2 hlt
          have hin := (unhide HN).2.2.2 _ (List.getElem_mem hlt)
          have hnx : lnJ T1 ((ss.take (j2 + 1)).map escS) = lnJ T1 ((ss.take j2).map escS) ++ ⟨#[32]⟩ ++ escS ss[j2] := by
            rw [List.take_succ_eq_append_getElem hlt, List.map_append, lnJ_app]; exact lnJ_one _ _
          have hsz : (lnJ T1 ((ss.take (j2 + 1)).map escS)).size ≤ 140737488355328 := by
            have h := HZA.out
            rw [lnJ_size]
            have h2 := spaced_take (ss.map escS) (j2 + 1)
            rw [← List.map_take] at h2
            omega
          rw [hnx, ByteArray.size_append, ByteArray.size_append, E32.out] at hsz
          have hd := rescape_any ss[j2] wr hin
          have HNX := Lib.hid hnx
          clear hnx
          generalize ss[j2] = x at *
          generalize lnJ T1 ((ss.take j2).map escS) = S at *
          generalize escS x = X at *
          have y1 : ¬ 9223372036854775807 < S.size + 1 := by omega
          have y2 : ¬ 9223372036854775807 < S.size + 1 + X.size := by omega
          have y3 : ¬ 9223372036854775807 < (S ++ ⟨#[32]⟩ : ByteArray).size + X.size := by rw [ByteArray.size_append, E32.out]; exact y2
          have HD := hide hd; have HB := hide hb
          clear hd hin hsz hb
          go_wp2_with fail
          refine (unhide HD).mono ?_
          rintro e1 w1 ⟨rfl, hb1⟩
          have H1 := hide ((unhide HB).trans (hb1.mono (unhide HB).size)); clear hb1 HB HD
          go_wp2_with fail
          exact ⟨⟨j2 + 1, by omega, by go_num, by rw [HNX.out], unhide H1⟩, by simp [RowKit.intOf]; omega⟩
        · have t2 : ¬ (j2 : Int) < (ss.length : Int) := by omega
          rw [List.take_of_length_le hge2]
          have HB := hide hb; clear hb
          go_wp2_with fail
          go_ret
          exact ⟨by rw [lnJ_app, hT1.out]; rfl, unhide HB⟩
end Go.Proofs.YtnkioabdpploeaaGreatDoor

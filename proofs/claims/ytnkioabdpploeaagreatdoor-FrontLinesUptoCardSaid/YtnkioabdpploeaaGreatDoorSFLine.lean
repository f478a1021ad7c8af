/-
  CONTRACTS of front.line, front.Tell.
-/
import Derived.Test.YtnkioabdpploeaaGreatDoorRows
import Derived.Test.YtnkioabdpploeaaGreatDoorGBase
import Derived.Test.YtnkioabdpploeaaGreatDoorGLns
import Derived.Test.YtnkioabdpploeaaGreatDoorGDecs
import Derived.Test.YtnkioabdpploeaaGreatDoorSEsc
import Derived.Test.YtnkioabdpploeaaGreatDoorSPlayJ
import Derived.Test.YtnkioabdpploeaaGreatDoorSFew
import Derived.Test.YtnkioabdpploeaaGreatDoorSTellP
set_option linter.unusedVariables false
set_option linter.unusedSimpArgs false
namespace Go.Proofs.YtnkioabdpploeaaGreatDoor
open Go.RowKit Go.Lib
set_option maxRecDepth 100000 in
set_option maxHeartbeats 1000000 in
theorem fline_any (v : Value) (ws : List ByteArray) (vn vs : Value) (ns : List Int) (ss : List ByteArray) (w0 w : World) (hO : OwnT w w0.heap.size v ws) (hb : Below w0.heap.size w0 w) (hN : IntsAt w0 vn ns) (hS : StrsAt w0 vs ss) (hne : ws ≠ [])
  (hi : ∀ z ∈ ns, In64 z) (hsz : ∀ x ∈ ss, x.size ≤ 1099511627776) (hl : ws.length + ns.length + ss.length ≤ 1099511627776) (hz : (joinSp (ws ++ ns.map decS ++ ss.map escS)).length ≤ 140737488355328) :
    Calls Tryz.prog 20 #[v, vn, vs] w fun e w' => e = .returned (.string (bsL (joinSp (ws ++ ns.map decS ++ ss.map escS)))) ∧ Below w0.heap.size w0 w' := by
  obtain ⟨A, c, rfl, -⟩ := id hN
  obtain ⟨B, d, rfl, -⟩ := id hS
  obtain ⟨Aw, cw, rfl, -⟩ := id (ownT_strs hO)
  have HN := hide (And.intro hN (And.intro hS (And.intro hi hsz))); have HZ := hide (And.intro hz hne); have HO := hide (And.intro hO hb); clear hN hS hi hsz hz hne hO hb
  have hn1 : ns.length ≤ 1099511627776 := by omega
  have hn2 : ss.length ≤ 1099511627776 := by omega
  go_enter Tryz.func20, Tryz.ntmps20
  go_wp2_with fail
  go_loopw [0, 8, 13] (fun o _ i W => ∃ (j : Nat), j ≤ ns.length ∧ i = .int .i64 (j : Int) ∧ OwnT W w0.heap.size o (ws ++ (ns.take j).map decS) ∧ Below w0.heap.size w0 W) (fun _ _ i _ => ns.length - (RowKit.intOf i).toNat)
  case atStart => exact ⟨0, Nat.zero_le _, rfl, by simpa using (unhide HO).1, (unhide HO).2⟩
  case round =>
    obtain ⟨j, hj, rfl, hO, hb⟩ := hrel
    rcases Nat.lt_or_ge j ns.length with hlt | hge
    · have t0 : (0 : Int) ≤ (j : Int) := by omega
      have t1 : (j : Int) < (ns.length : Int) := by omega
      have qb : j ≤ 1099511627776 := by omega
      obtain ⟨q, rfl, hca⟩ := intsAt_at ((unhide HN).1.below hb) j hlt
      have hin := (unhide HN).2.2.1 _ (List.getElem_mem hlt)
      have hnx : Hid (ws ++ (ns.take (j + 1)).map decS = ws ++ (ns.take j).map decS ++ [decS ns[j]]) := Lib.hid (by rw [List.take_succ_eq_append_getElem hlt, List.map_append, List.append_assoc]; rfl)
      have hlen : Hid ((ws ++ (ns.take j).map decS).length ≤ 1099511627776) := Lib.hid (by rw [List.length_append, List.length_map, List.length_take]; omega)
      have hd := dec_any ns[j] wr hin.1 hin.2
      generalize ns[j] = x at *
      generalize ws ++ (ns.take j).map decS = acc at *
      have HX := hide (And.intro hO hb); have HD := hide hd
      clear hO hb hd hin
      go_wp2_with fail
      refine (unhide HD).mono ?_
      rintro e1 w1 ⟨rfl, hb1⟩
      have hO1 := (unhide HX).1.below hb1
      have H1 := hide (And.intro hO1 ((unhide HX).2.trans (hb1.mono (unhide HX).2.size))); clear hO1 hb1 HX HD
      go_wp2_with (first | (at_builtin; refine wpList_appT1 w1 rfl _ _ rfl (unhide H1).1 rfl rfl (by have := hlen.out; omega) (unhide H1).2.size ?_; intro v3 w3 hO3 hg3 hat3; have H3 := hide (And.intro hO3 (appT_below (unhide H1).2 (unhide H1).1 (unhide H1).2.size hg3)); clear hO3 hg3 hat3))
      exact ⟨⟨j + 1, by omega, by go_num, by rw [hnx.out]; exact (unhide H3).1, (unhide H3).2⟩, by simp [RowKit.intOf]; omega⟩
    · have t1 : ¬ (j : Int) < (ns.length : Int) := by omega
      rw [List.take_of_length_le hge] at hO
      have hlw : Hid ((ws ++ ns.map decS).length + ss.length ≤ 1099511627776) := Lib.hid (by rw [List.length_append, List.length_map]; omega)
      have hne : Hid (ws ++ ns.map decS ≠ []) := Lib.hid (by intro e; exact (unhide HZ).2 (List.append_eq_nil_iff.1 e).1)
      have HZ2 := hide (unhide HZ).1
      obtain ⟨acc0, hac⟩ : ∃ a, Hid (ws ++ ns.map decS = a) := ⟨_, Lib.hid rfl⟩
      rw [hac.out] at hlw hne HZ2 hO
      have HO2 := hide (And.intro hO hb); clear hO hb HZ HO
      go_wp2_with fail
      go_loopw [0, 10, 25] (fun o _ i W => ∃ (j : Nat), j ≤ ss.length ∧ i = .int .i64 (j : Int) ∧ OwnT W w0.heap.size o (acc0 ++ (ss.take j).map escS) ∧ Below w0.heap.size w0 W) (fun _ _ i _ => ss.length - (RowKit.intOf i).toNat)
      case atStart => exact ⟨0, Nat.zero_le _, rfl, by simpa using (unhide HO2).1, (unhide HO2).2⟩
      case round =>
        obtain ⟨j, hj, rfl, hO, hb⟩ := hrel
        rcases Nat.lt_or_ge j ss.length with hlt | hge
        · have t0 : (0 : Int) ≤ (j : Int) := by omega
          have t1 : (j : Int) < (ss.length : Int) := by omega
          have qb : j ≤ 1099511627776 := by omega
          obtain ⟨q, rfl, hca⟩ := strs_at ((unhide HN).2.1.below hb) j hlt
          have hin := (unhide HN).2.2.2 _ (List.getElem_mem hlt)
          have hnx : Hid (acc0 ++ (ss.take (j + 1)).map escS = acc0 ++ (ss.take j).map escS ++ [escS ss[j]]) := Lib.hid (by rw [List.take_succ_eq_append_getElem hlt, List.map_append, List.append_assoc]; rfl)
          have hlen : Hid ((acc0 ++ (ss.take j).map escS).length ≤ 1099511627776) := Lib.hid (by have := hlw.out; rw [List.length_append, List.length_map, List.length_take]; omega)
          have hd := escape_any ss[j] wr hin
          generalize ss[j] = x at *
          generalize acc0 ++ (ss.take j).map escS = acc at *
          have HX := hide (And.intro hO hb); have HD := hide hd
          clear hO hb hd hin
          go_wp2_with fail
          refine (unhide HD).mono ?_
          rintro e1 w1 ⟨rfl, hb1⟩
          have hO1 := (unhide HX).1.below hb1
          have H1 := hide (And.intro hO1 ((unhide HX).2.trans (hb1.mono (unhide HX).2.size))); clear hO1 hb1 HX HD
          go_wp2_with (first | (at_builtin; refine wpList_appT1 w1 rfl _ _ rfl (unhide H1).1 rfl rfl (by have := hlen.out; omega) (unhide H1).2.size ?_; intro v3 w3 hO3 hg3 hat3; have H3 := hide (And.intro hO3 (appT_below (unhide H1).2 (unhide H1).1 (unhide H1).2.size hg3)); clear hO3 hg3 hat3))
          exact ⟨⟨j + 1, by omega, by go_num, by rw [hnx.out]; exact (unhide H3).1, (unhide H3).2⟩, by simp [RowKit.intOf]; omega⟩
        · have t1 : ¬ (j : Int) < (ss.length : Int) := by omega
          rw [List.take_of_length_le hge] at hO
          have hJ := join_any hO (fun e => hne.out (List.append_eq_nil_iff.1 e).1) (by have := hlw.out; rw [List.length_append, List.length_map]; omega) (unhide HZ2)
          have HJ := hide hJ; have HB := hide hb; clear hJ hb hO
          go_wp2_with fail
          refine (unhide HJ).mono ?_
          rintro e1 w1 ⟨rfl, hb1⟩
          have H1 := hide ((unhide HB).trans (hb1.mono (unhide HB).size)); clear hb1 HB HJ
          go_wp2_with fail
          go_ret
          exact ⟨by rw [hac.out]; rfl, unhide H1⟩
end Go.Proofs.YtnkioabdpploeaaGreatDoor

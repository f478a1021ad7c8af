/-
  THE WALK of the law PlayComesBack.
-/
import Derived.Test.YtaomecinemmdgaaRows
import Derived.Test.YtaomecinemmdgaaGBase
import Derived.Test.YtaomecinemmdgaaSDecode
import Derived.Test.YtaomecinemmdgaaSDecSm
import Derived.Test.YtaomecinemmdgaaSSameSt
import Derived.Test.YtaomecinemmdgaaSBackL
import Derived.Test.YtaomecinemmdgaaSScript
import Derived.Test.YtaomecinemmdgaaSTwin
import Derived.Test.YtaomecinemmdgaaSOpenSteps
import Derived.Test.YtaomecinemmdgaaSComeP
import Derived.Test.YtaomecinemmdgaaSComeI
set_option linter.unusedVariables false
set_option linter.unusedSimpArgs false
namespace Go.Proofs.Ytaomecinemmdgaa
open Go.RowKit Go.Lib
/-- All that the walk wants to know of the list. -/
structure ComeF (L : List StepR) (T : ByteArray) : Prop where
  t : scriptB L = T
  ok : ∀ s ∈ L, StepOk s ∧ s.ns.length ≤ 1073741824
  sm : ∀ s ∈ L, s.ns.length ≤ 1073741824 ∧ s.ss.length ≤ 1073741824
  len : L.length ≤ 1073741824
  z : T.size ≤ 4000000000
  zl : (scriptL L).length ≤ 4000000000
  d : decO T = (L, 0, 0)
  c : T.data.toList.count 10 = L.length
theorem come_facts (l : List StepR) (h6 : ∀ s ∈ l, s.o.length = 6) (hi : ∀ s ∈ l, (∀ z ∈ s.ns, In64 z) ∧ ∀ z ∈ s.o, In64 z) (hz : stepsW l ≤ 1048576) : ComeF (comeL l) (scriptB (comeL l)) := by
  have hC := comeL_clean l h6 hi
  have hW := comeL_W l
  have hS := comeL_small l hz
  have hL := scriptL_len (comeL l) (fun s hs => ⟨⟨(clean_in (hC s hs)).1, (clean_in (hC s hs)).2.1⟩, (clean_in (hC s hs)).2.2⟩)
  have hd := decO_clean (comeL l) hC
  have hln := stepsW_len (comeL l)
  have hsz : (scriptB (comeL l)).size = (scriptL (comeL l)).length := by show (scriptL (comeL l)).toArray.size = _; rw [List.size_toArray]
  exact ⟨rfl, fun s hs => ⟨⟨(clean_in (hC s hs)).1, (clean_in (hC s hs)).2.1, by have := hS s hs; omega, (hS s hs).2.2⟩, by have := hS s hs; omega⟩, fun s hs => by have := hS s hs; omega, by omega, by omega, by omega, hd.1, hd.2⟩
set_option maxRecDepth 100000 in
set_option maxHeartbeats 4000000 in
theorem lawComesBack_any (v : Value) (l : List StepR) (w : World) (hV : StepsAt w v l) (hi : ∀ s ∈ l, (∀ z ∈ s.ns, In64 z) ∧ ∀ z ∈ s.o, In64 z) (hz : stepsW l ≤ 1048576) (hM : MaxK w) :
    Calls Try.prog 7 #[v] w fun e W' => e = .returned (.bool true) ∧ Below w.heap.size w W' := by
  obtain ⟨T, hT⟩ : ∃ T, ComeF (comeL l) T := ⟨_, come_facts l (steps_o hV) hi hz⟩
  have hn : l.length ≤ 1048576 := by have := stepsW_len l; omega
  obtain ⟨A, cap, rfl, hel⟩ := hV
  have HEL := hide hel; have HM := hide hM; have HT := hide hT; clear hel hM hT hi hz
  go_enter Try.func7, Try.ntmps7
  go_wp2_with fail
  go_loopw [3, 4] (fun u i W => ∃ (j : Nat) (es : List TE), j ≤ l.length ∧ i = .int .i64 (j : Int) ∧ Hid (es.map TE.step = ⟨4, zero6, [], []⟩ :: (l.take j).map cleanP) ∧ CnS w W u es) (fun _ i _ => l.length - (RowKit.intOf i).toNat)
  case atStart => exact ⟨0, _, by omega, rfl, Lib.hid rfl, cns_first w⟩
  case round =>
    obtain ⟨j, es, hj, rfl, hes, hX⟩ := hrel
    have hel2 : Hid (es.length = j + 1) := Lib.hid (by have := congrArg List.length hes.out; rw [List.length_map, List.length_cons, List.length_map, List.length_take] at this; omega)
    rcases Nat.lt_or_ge j l.length with hlt | hge
    · have t1 : (j : Int) < (l.length : Int) := by omega
      have t0 : (0 : Int) ≤ (j : Int) := by omega
      have qb : j ≤ 1048576 := by omega
      obtain ⟨q, rfl, hst⟩ := unhide HEL j hlt
      have hnx : Hid ((l.take (j + 1)).map cleanP = (l.take j).map cleanP ++ [cleanP l[j]]) := Lib.hid (by rw [List.take_succ_eq_append_getElem hlt, List.map_append]; rfl)
      generalize l[j] = s at *
      obtain ⟨kd, o, ns, ss⟩ := s
      obtain ⟨vn, vs, a, b, c, d, e, f, ho, p0, p1, p2, p3, p4, p5, p6, p7, p8, hI, hS⟩ := hst
      simp only at ho p0 hI hS
      subst ho
      have hb := hX.b
      have hbl := World.block_lt_of_cell? w _ p0
      have c0 := (hb.cell hbl).trans p0
      have c1 := (hb.cell (p := ⟨(q.add (j * 9)).block, (q.add (j * 9)).off + 1, none⟩) hbl).trans p1
      have c2 := (hb.cell (p := ⟨(q.add (j * 9)).block, (q.add (j * 9)).off + 2, none⟩) hbl).trans p2
      have c3 := (hb.cell (p := ⟨(q.add (j * 9)).block, (q.add (j * 9)).off + 3, none⟩) hbl).trans p3
      have c4 := (hb.cell (p := ⟨(q.add (j * 9)).block, (q.add (j * 9)).off + 4, none⟩) hbl).trans p4
      have c5 := (hb.cell (p := ⟨(q.add (j * 9)).block, (q.add (j * 9)).off + 5, none⟩) hbl).trans p5
      have c6 := (hb.cell (p := ⟨(q.add (j * 9)).block, (q.add (j * 9)).off + 6, none⟩) hbl).trans p6
      have c7 := (hb.cell (p := ⟨(q.add (j * 9)).block, (q.add (j * 9)).off + 7, none⟩) hbl).trans p7
      have c8 := (hb.cell (p := ⟨(q.add (j * 9)).block, (q.add (j * 9)).off + 8, none⟩) hbl).trans p8
      obtain ⟨An, cn, rfl, -⟩ := id hI
      obtain ⟨As, cs, rfl, -⟩ := id hS
      have HP := hide (And.intro hI hS)
      have hcl := clean_any kd _ _ a b c d e f ns ss wr (hI.below hb) (hS.below hb)
      have HC := hide hcl
      have HX := hide hX; clear hX hb p0 p1 p2 p3 p4 p5 p6 p7 p8 hI hS hcl
      go_wp2_with fail
      refine (unhide HC).mono ?_
      rintro e1 w1 ⟨⟨kd1, vn1, vs1, a1, b1, d1, e1', f1, g1, ns1, ss1⟩, rfl, h1, h2, h3, hb1⟩
      have hNI := ni_of (unhide HX).b (unhide HP).1 (unhide HP).2 h1 h2
      have hX1 := (unhide HX).call hb1
      obtain ⟨A1, k1, rfl, -⟩ : IntsAt w1 vn1 ns1 := hNI.1.elim (fun h => h.below hX1.b) (fun h => h.ints)
      obtain ⟨A2, k2, rfl, -⟩ : StrsAt w1 vs1 ss1 := hNI.2.elim (fun h => h.below hX1.b) own_strs
      have HN := hide (And.intro hX1 hNI); have H3 := Lib.hid h3
      clear hX1 hNI h1 h2 h3 hb1 HX HC HP c0 c1 c2 c3 c4 c5 c6 c7 c8
      dsimp only [TE.cs]
      go_wp2_with (first | (at_builtin; (refine wpList_appS1 w1 rfl _ _ rfl (unhide HN).1.row rfl (y := ⟨kd1, .slice A1 ns1.length k1, .slice A2 ss1.length k2, a1, b1, d1, e1', f1, g1, ns1, ss1⟩) rfl ⟨rfl, rfl⟩ (by have := hel2.out; omega) (unhide HN).1.b.size ?_; intro v9 w9 hO9 hg9 hat9; have H9 := hide (CnS.app (y := ⟨kd1, .slice A1 ns1.length k1, .slice A2 ss1.length k2, a1, b1, d1, e1', f1, g1, ns1, ss1⟩) (unhide HN).1 (unhide HN).2 hO9 hg9); clear hO9 hg9 hat9)))
      exact ⟨⟨j + 1, es ++ [⟨kd1, .slice A1 ns1.length k1, .slice A2 ss1.length k2, a1, b1, d1, e1', f1, g1, ns1, ss1⟩], by omega, by go_num, Lib.hid (by rw [List.map_append, hes.out, hnx.out, List.map_cons, List.map_nil, H3.out]; rfl), unhide H9⟩, by simp [RowKit.intOf]; omega⟩
    · have t1 : ¬ (j : Int) < (l.length : Int) := by omega
      have hst : Hid (es.map TE.step = comeL l) := Lib.hid (by rw [hes.out, List.take_of_length_le hge]; rfl)
      have hS1 := hX.steps
      rw [hst.out] at hS1
      have HB := hide hX.b
      clear hX hes hel2
      generalize comeL l = L at *
      obtain ⟨Au, cu, rfl, -⟩ := id hS1
      have hTw := twin_any _ L wr hS1 (unhide HT).sm (unhide HT).len
      have HTW := hide hTw; have HS := hide hS1
      clear hTw hS1
      go_wp2_with fail
      refine (unhide HTW).mono ?_
      rintro e1 w1 ⟨v1, rfl, hV1, hb1⟩
      obtain ⟨A1, c1, rfl, -⟩ := id hV1
      have hSc := script_any _ L w1 hV1 (unhide HT).ok (by have := (unhide HT).zl; omega) (by have := (unhide HT).len; omega)
      rw [(unhide HT).t] at hSc
      have HSC := hide hSc; have HB1 := hide ((unhide HB).trans (hb1.mono (unhide HB).size)); have HS1 := hide (stepsAt_below (unhide HS) hb1)
      clear hSc hV1 hb1 HTW HS HB
      go_wp2_with fail
      refine (unhide HSC).mono ?_
      rintro e2 w2 ⟨rfl, hb2⟩
      have HB2 := hide ((unhide HB1).trans (hb2.mono (unhide HB1).size)); have HS2 := hide (stepsAt_below (unhide HS1) hb2)
      clear hb2 HSC HB1 HS1
      have HCT := Lib.hid (unhide HT).c
      have hTz : T.size ≤ 4000000000 := (unhide HT).z
      go_wp2_with fail
      go_loopw [6, 7] (fun nl i W => ∃ j : Nat, i = .int .i64 (j : Int) ∧ j ≤ T.size ∧ nl = .int .i64 (((T.data.toList.take j).count 10 : Nat) : Int) ∧ Hid (W = w2)) (fun _ i _ => T.size - (RowKit.intOf i).toNat)
      case atStart => exact ⟨0, rfl, by omega, rfl, Lib.hid rfl⟩
      case round =>
        obtain ⟨j, rfl, hj, rfl, hw⟩ := hrel
        have hw' := hw.out
        subst hw'
        have hXl : T.data.toList.length = T.size := Array.length_toList
        have hcl : (T.data.toList.take j).count 10 ≤ 4000000000 := by
          have := List.count_le_length (a := (10 : UInt8)) (l := T.data.toList.take j)
          rw [List.length_take] at this
          omega
        rcases Nat.lt_or_ge j T.size with hlt | hge
        · have t0 : (0 : Int) ≤ (j : Int) := by omega
          have t1 : (j : Int) < (T.size : Int) := by omega
          have qb : j ≤ 4000000000 := by omega
          have htk : Hid ((T.data.toList.take (j + 1)).count 10 = (T.data.toList.take j).count 10 + (if T[j] = 10 then 1 else 0)) := Lib.hid (by
            rw [List.take_succ_eq_append_getElem (by omega), List.count_append]
            congr 1
            rw [show T.data.toList[j] = T[j] from rfl, List.count_cons, List.count_nil]
            simp)
          generalize (T.data.toList.take j).count 10 = cn at *
          by_cases h10 : T[j] = 10
          · have p1 : ((T[j].toNat : Int) == 10) = true := by rw [h10]; rfl
            have p2 : (T[j].toNat : Int) = 10 := by rw [h10]; rfl
            have hk := htk.out
            rw [if_pos h10] at hk
            have HK := Lib.hid hk
            clear h10 htk hk
            go_wp2_with fail
            refine ⟨⟨j + 1, by go_num, by omega, ?_, Lib.hid (by first | trivial | rfl)⟩, by simp [RowKit.intOf]; omega⟩
            rw [HK.out]; go_num
          · have p1 : ((T[j].toNat : Int) == 10) = false := by
              rw [beq_eq_false_iff_ne]; exact fun e => h10 (UInt8.toNat_inj.1 (by show T[j].toNat = 10; omega))
            have p2 : ¬ (T[j].toNat : Int) = 10 := by rw [beq_eq_false_iff_ne] at p1; exact p1
            have hk := htk.out
            rw [if_neg h10, Nat.add_zero] at hk
            have HK := Lib.hid hk
            clear h10 htk hk
            go_wp2_with fail
            refine ⟨⟨j + 1, by go_num, by omega, ?_, Lib.hid (by first | trivial | rfl)⟩, by simp [RowKit.intOf]; omega⟩
            rw [HK.out]; rfl
        · have t1 : ¬ (j : Int) < (T.size : Int) := by omega
          obtain rfl : j = T.size := by omega
          have hfull : T.data.toList.take T.size = T.data.toList := List.take_of_length_le (by omega)
          rw [hfull] at hcl ⊢
          rw [HCT.out]
          have hD := decode_big T wr (unhide HT).z ((unhide HM).below (unhide HB2) (unhide HM).lt)
          have HD := hide hD
          have q0 : ((L.length : Int) == (L.length : Int)) = true := beq_self_eq_true _
          clear hfull hcl hD
          go_wp2_with fail
          refine (unhide HD).mono ?_
          rintro e3 w3 ⟨⟨v3, es3, rfl, he3, hX3⟩, hb3⟩
          have hS3 := hX3.steps
          rw [(unhide HT).d] at he3 ⊢
          simp only at he3 ⊢
          rw [he3] at hS3
          have hS2 := stepsAt_below (unhide HS2) hb3
          have hsm := decO_big T (unhide HT).z
          rw [(unhide HT).d] at hsm
          simp only at hsm
          have hE := sameSteps_eq _ _ L w3 hsm.1 hsm.2 hS3 hS2
          obtain ⟨A3, c3, rfl, -⟩ := id hS3
          have HE := hide hE; have HB3 := hide ((unhide HB2).trans (hb3.mono (unhide HB2).size))
          clear hE hsm hS2 hS3 he3 hX3 hb3 HD
          go_wp2_with fail
          refine (unhide HE).mono ?_
          rintro e4 w4 ⟨rfl, n4, rfl⟩
          go_wp2_with fail
          go_ret
          exact ⟨rfl, below_drewN (unhide HB3) n4⟩
set_option maxRecDepth 100000 in
theorem playComesBack_walk {H : Type} {enc : TypeId × Value → H} (W : World) (base : Nat) (v0 : Value) (d0 : DataW H) (p0 : List MemPlace) (o0 : Value.okWide Try.prog W .any base 22 v0) (h0 : DataW.Trod enc Try.prog W 0 (fun _ => true) true 22 v0 d0 p0) (l0 : ∀ x ∈ p0, x.block < W.heap.size) (hz : (DataW.weightsEach Try.prog [22] ([d0] : List (DataW H))).all (· ≤ reachBytes) = true) (hk : Rows.uptoBulkAll ([d0] : List (DataW H)) ≤ 1048576) (hsh : W.ShapedOpen Try.prog) :
    Calls Try.prog 7 #[v0] W fun e W' => e = .returned (.bool true) ∧ Below W.heap.size W W' := by
  obtain ⟨l, hV, hb, hi⟩ := open_steps o0 h0
  simp only [Rows.uptoBulkAll] at hk
  exact lawComesBack_any v0 l W hV hi (by omega) (max_k hsh)
end Go.Proofs.Ytaomecinemmdgaa

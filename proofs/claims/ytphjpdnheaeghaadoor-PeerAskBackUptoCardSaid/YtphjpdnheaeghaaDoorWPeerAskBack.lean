/-
  WALK of PeerAskBack: a request that is written is read back; what is read is written again as the same text.
-/
import Derived.Test.YtphjpdnheaeghaaDoorRows
import Derived.Test.YtphjpdnheaeghaaDoorWd
import Derived.Test.YtphjpdnheaeghaaDoorPAsk
import Derived.Test.YtphjpdnheaeghaaDoorPAsked
import Derived.Test.YtphjpdnheaeghaaDoorSameS
import Derived.Test.YtphjpdnheaeghaaDoorOpenQ
import Derived.ChangeMaps
import Derived.Deep.DeepCutAuto
set_option linter.unusedVariables false
set_option linter.unusedSimpArgs false
namespace Go.Proofs.YtphjpdnheaeghaaDoor
open Go.RowKit Go.Lib
/-- A box, and what stands before it. -/
structure TQ (w W : World) (g : Nat) (cs : Array Value) : Prop where
  b : Below w.heap.size w W
  x : Blk W g 24 cs
theorem TQ.next {w W W' : World} {g : Nat} {cs : Array Value} (h : TQ w W g cs) (hb : Below W.heap.size W W') : TQ w W' g cs := ⟨h.b.trans (hb.mono h.b.size), h.x.below hb h.x.lt⟩
/-- Is the request one that has a text, as far as the loop has come? -/
def takB (r : RqR) (j : Nat) : Bool := decide (0 ≤ r.old) && decide (r.old ≤ 4611686018427387904) && decide (r.pf.length ≤ 63) && (r.pf.take j).all (fun h => decide (1 ≤ h.size) && decide (h.size ≤ 32))
theorem takB_succ (r : RqR) (j : Nat) (hj : j < r.pf.length) : takB r (j + 1) = (takB r j && decide (1 ≤ r.pf[j].size) && decide (r.pf[j].size ≤ 32)) := by
  unfold takB
  rw [List.take_succ_eq_append_getElem hj, List.all_append, List.all_cons, List.all_nil, Bool.and_true]
  simp only [Bool.and_assoc]
theorem takB_0 (r : RqR) : takB r 0 = (decide (0 ≤ r.old) && decide (r.old ≤ 4611686018427387904) && decide (r.pf.length ≤ 63)) := by
  unfold takB; simp
theorem takB_all (r : RqR) : takB r r.pf.length = decide (askE r = 0) := by
  have h := askE_ok (r := r)
  unfold AskOk at h
  unfold takB
  rw [List.take_length]
  rw [Bool.eq_iff_iff, decide_eq_true_iff, h]
  simp only [Bool.and_eq_true, decide_eq_true_eq, List.all_eq_true]
  constructor
  · rintro ⟨⟨⟨h1, h2⟩, h3⟩, h4⟩; exact ⟨h1, h2, h3, h4⟩
  · rintro ⟨h1, h2, h3, h4⟩; exact ⟨⟨⟨h1, h2⟩, h3⟩, h4⟩
theorem askE_val (r : RqR) : askE r = 0 ∨ askE r = 10 ∨ askE r = 83 ∨ askE r = 72 := by
  unfold askE
  split
  · exact .inr (.inl rfl)
  · split
    · exact .inr (.inr (.inl rfl))
    · split
      · exact .inl rfl
      · exact .inr (.inr (.inr rfl))
set_option maxRecDepth 100000 in
set_option maxHeartbeats 4000000 in
theorem lawPeerAskBack_any (r : RqR) (vp : Value) (b : ByteArray) (w : World) (hS : StrsAt w vp r.pf) (hin : In64P r.old) (hn : r.pf.length ≤ 1048577) (hnt : r.nt.size ≤ 1048577) (hb : b.size ≤ 1048577) (hM : MaxK w) :
    Calls Tryd.prog 4 #[.agg #[.int .i64 r.old, vp, .string r.nt], .string b] w fun e w' => e = .returned (.bool true) ∧ Below w.heap.size w w' := by
  obtain ⟨A, c, rfl, -⟩ := id hS
  have hX0 : TQ w (w.alloc (.cells #[.int .i64 r.old, .slice A r.pf.length c, .string r.nt] 24)) w.heap.size #[.int .i64 r.old, .slice A r.pf.length c, .string r.nt] := ⟨(Below.refl _ _).alloc (Nat.le_refl _) _, Blk.new _ _ _⟩
  have hask := pask_any r _ (w.alloc (.cells #[.int .i64 r.old, .slice A r.pf.length c, .string r.nt] 24)) (hS.below hX0.b) hin (by omega) (by omega)
  have c0 := hX0.x.cell 0; have c1 := hX0.x.cell 1; have c2 := hX0.x.cell 2
  simp only [List.getElem?_toArray, List.getElem?_cons_zero, List.getElem?_cons_succ] at c0 c1 c2
  obtain ⟨s, hs⟩ : ∃ s, Hid ((if askE r = 0 then askB r else ⟨#[]⟩) = s) := ⟨_, Lib.hid rfl⟩
  obtain ⟨en, hen⟩ : ∃ en, Hid (askE r = en) := ⟨_, Lib.hid rfl⟩
  have hz : s.size ≤ 2097152 := by
    rw [← hs.out]
    split
    · rename_i h
      have h1 := askE_ok.1 h
      have h2 := askB_size r (fun x hx => (h1.2.2.2 x hx).2)
      have h3 : (decS r.old).size ≤ 20 := dec_size20 hin.1 hin.2
      have h4 := h1.2.2.1
      omega
    · show (0 : Nat) ≤ _; omega
  unfold askV at hask
  rw [hs.out, hen.out] at hask
  have HA := hide hask; have HX0 := hide hX0; have HM := hide hM; have HS := hide hS
  clear hask hX0 hM hS
  go_enter Tryd.func4, Tryd.ntmps4
  go_wp2_with fail
  refine (unhide HA).mono ?_
  rintro e1 w1 ⟨rfl, hb1⟩
  have hX1 := (unhide HX0).next hb1
  have hpk := pasked_any s w1 (by omega) ((unhide HM).below hX1.b (unhide HM).lt)
  have HX1 := hide hX1; have HP := hide hpk
  clear hX1 hpk hb1 HX0 HA c0 c1 c2
  go_wp2_with fail
  refine (unhide HP).mono ?_
  rintro e2 w2 ⟨hT2, hb2⟩
  clear HP
  obtain ⟨q, z, hql, hz13, hqok, hu⟩ := asked_unif s
  obtain ⟨Aq, cq, rfl, hOq⟩ := hu _ _ _ hT2
  have hX2 := ((unhide HX1).next hb2).next ((Below.refl w2.heap.size w2).alloc (Nat.le_refl _) (.cells #[.int .i64 q.old, .slice Aq q.pf.length cq, .string q.nt] 24))
  have hQ := Blk.new w2 24 #[.int .i64 q.old, .slice Aq q.pf.length cq, .string q.nt]
  have hOq2 := ownT_strsQ (World.ownsRow.alloc hOq (.cells #[.int .i64 q.old, .slice Aq q.pf.length cq, .string q.nt] 24))
  have c0 := hX2.x.cell 0; have c1 := hX2.x.cell 1; have c2 := hX2.x.cell 2
  have d0 := hQ.cell 0; have d1 := hQ.cell 1; have d2 := hQ.cell 2
  simp only [List.getElem?_toArray, List.getElem?_cons_zero, List.getElem?_cons_succ] at c0 c1 c2 d0 d1 d2
  -- what is known of the answers
  have hcase : Hid ((en = 0 ∧ z = 0 ∧ q = r) ∨ (en ≠ 0 ∧ z = 13)) := by
    rw [← hen.out]
    by_cases h : askE r = 0
    · refine Lib.hid (.inl ⟨h, ?_⟩)
      have hse : s = askB r := by rw [← hs.out, if_pos h]
      rcases hT2 with ⟨q', vq', hq', hqb, he, -⟩ | ⟨hno, -⟩
      · injection he with he
        injection he with he
        have he := congrArg Array.toList he
        simp at he
        obtain rfl := he.2
        have h3 := hqok rfl
        exact ⟨rfl, ask_one h3.1 (askE_ok.1 h) (h3.2.trans hse)⟩
      · exact absurd hse.symm (hno r (askE_ok.1 h))
    · refine Lib.hid (.inr ⟨h, ?_⟩)
      rcases hz13 with rfl | h13
      · exfalso
        have h3 := hqok rfl
        have hse : s = ⟨#[]⟩ := by rw [← hs.out, if_neg h]
        have h4 := congrArg ByteArray.size (h3.2.trans hse)
        have h5 : (askB q).size = (headL q ++ 10 :: 10 :: q.nt.data.toList).length := by show (List.toArray _).size = _; rw [List.size_toArray]
        rw [h5] at h4
        simp at h4
        have : (⟨#[]⟩ : ByteArray).size = 0 := rfl
        omega
      · exact h13
  have HX2 := hide (And.intro hX2 hOq2)
  clear hT2 hb2 hOq hX2 hQ hu hOq2 hqok HX1
  have hsm : Calls Tryd.prog 9 #[.agg #[.int .i64 q.old, .slice Aq q.pf.length cq, .string q.nt], .agg #[.int .i64 r.old, .slice A r.pf.length c, .string r.nt]] (w2.alloc (.cells #[.int .i64 q.old, .slice Aq q.pf.length cq, .string q.nt] 24)) fun e w' => (∃ bb, Hid (en = 0 → bb = true) ∧ e = .returned (.bool bb)) ∧ Below (w2.alloc (.cells #[.int .i64 q.old, .slice Aq q.pf.length cq, .string q.nt] 24)).heap.size (w2.alloc (.cells #[.int .i64 q.old, .slice Aq q.pf.length cq, .string q.nt] 24)) w' := by
    have hSr := (unhide HS).below (unhide HX2).1.b
    rcases hcase.out with ⟨-, -, rfl⟩ | ⟨h0, -⟩
    · refine (sameRequest22_eq q.old _ _ q.pf q.nt _ (by omega) (unhide HX2).2 hSr).mono ?_
      rintro e w' ⟨rfl, hb⟩
      exact ⟨⟨true, Lib.hid (fun _ => rfl), rfl⟩, hb⟩
    · refine (sameRequest22_some q.old r.old _ _ q.pf r.pf q.nt r.nt _ (by omega) (by omega) (unhide HX2).2 hSr).mono ?_
      rintro e w' ⟨⟨bb, rfl⟩, hb⟩
      exact ⟨⟨bb, Lib.hid (fun h => absurd h h0), rfl⟩, hb⟩
  have HSM := hide hsm
  clear hsm
  go_wp2_with fail
  generalize (w2.alloc (.cells #[.int .i64 q.old, .slice Aq q.pf.length cq, .string q.nt] 24)) = w3 at *
  refine (unhide HSM).mono ?_
  rintro e4 w4 ⟨⟨bb, hbb, rfl⟩, hb4⟩
  have hX4 := (unhide HX2).1.next hb4
  clear HSM c0 c1 c2 d0 d1 d2 hz13
  have c0 := hX4.x.cell 0; have c1 := hX4.x.cell 1; have c2 := hX4.x.cell 2
  simp only [List.getElem?_toArray, List.getElem?_cons_zero, List.getElem?_cons_succ] at c0 c1 c2
  have HX4 := hide hX4
  clear hX4 hb4 HX2
  generalize w2.heap.size = g2 at *
  generalize q.old = qo at *
  generalize q.nt = qn at *
  generalize q.pf.length = ql at *
  have htk := takB_0 r
  have hts := takB_succ r
  have hta := takB_all r
  rw [hen.out] at hta
  obtain ⟨old, pf, nt⟩ := r
  simp only at *
  generalize takB ⟨old, pf, nt⟩ = tk at *
  have HTK := Lib.hid htk; have HTS := hide hts; have HTA := Lib.hid hta
  clear htk hts hta
  go_upto_region 4 with fail
  obtain ⟨wv, hwv⟩ : ∃ wv : World, wv = w4 := ⟨_, rfl⟩
  obtain ⟨tk0, htk0⟩ : ∃ t, Hid (tk 0 = t) := ⟨_, Lib.hid rfl⟩
  go_cut [10] (fun s10 wx => s10 = .bool tk0 ∧ wx = wv)
  case first =>
    by_cases h1 : 0 ≤ old
    · by_cases h2 : old ≤ 4611686018427387904
      · by_cases h3 : pf.length ≤ 63
        · have e : tk0 = true := by rw [← htk0.out, HTK.out]; simp [h1, h2, h3]
          have h4 : (pf.length : Int) ≤ 63 := by omega
          go_wp2_with fail
          go_meet
          case rel => exact ⟨by rw [e], hwv.symm⟩
        · have e : tk0 = false := by rw [← htk0.out, HTK.out]; simp [h1, h2, h3]
          have h4 : ¬ (pf.length : Int) ≤ 63 := by omega
          go_wp2_with fail
          go_meet
          case rel => exact ⟨by rw [e], hwv.symm⟩
      · have e : tk0 = false := by rw [← htk0.out, HTK.out]; simp [h1, h2]
        go_wp2_with fail
        go_meet
        case rel => exact ⟨by rw [e], hwv.symm⟩
    · have e : tk0 = false := by rw [← htk0.out, HTK.out]; simp [h1]
      go_wp2_with fail
      go_meet
      case rel => exact ⟨by rw [e], hwv.symm⟩
  case rest =>
    obtain ⟨rfl, hw3⟩ := hcut
    rw [hwv] at hw3
    subst hw3
    clear hwv
    go_wp2_with fail
    go_loopw [10, 11] (fun t i W => ∃ (j : Nat) (tb : Bool), i = .int .i64 (j : Int) ∧ j ≤ pf.length ∧ t = .bool tb ∧ Hid (tk j = tb) ∧ Hid (W = wc)) (fun _ i _ => pf.length - (RowKit.intOf i).toNat)
    case atStart => exact ⟨0, tk0, rfl, Nat.zero_le _, rfl, htk0, Lib.hid rfl⟩
    case round =>
      obtain ⟨j, tb, rfl, hj, rfl, htb, hW⟩ := hrel
      have hW' := hW.out
      subst hW'
      have t0 : (0 : Int) ≤ (j : Int) := by omega
      rcases Nat.lt_or_ge j pf.length with hlt | hge
      · have t1 : (j : Int) < (pf.length : Int) := by omega
        have qb : j ≤ 1048577 := by omega
        have hnx := Lib.hid ((unhide HTS) j hlt)
        cases htv : tb with
        | false =>
          have hn2 : Hid (tk (j + 1) = false) := Lib.hid (by rw [hnx.out, htb.out, htv]; rfl)
          clear htv
          go_wp2_with fail
          exact ⟨⟨j + 1, false, by go_num, by omega, rfl, hn2, Lib.hid (by first | trivial | rfl)⟩, by simp [RowKit.intOf]; omega⟩
        | true =>
          obtain ⟨a, rfl, ca⟩ := strsP_at ((unhide HS).below (unhide HX4).b) j hlt
          generalize pf[j] = x at *
          by_cases x1 : 1 ≤ x.size
          · have s1 : (1 : Int) ≤ (x.size : Int) := by omega
            by_cases x2 : x.size ≤ 32
            · have s2 : (x.size : Int) ≤ 32 := by omega
              have hn2 : Hid (tk (j + 1) = true) := Lib.hid (by rw [hnx.out, htb.out, htv]; simp [x1, x2])
              clear htv
              go_wp2_with fail
              exact ⟨⟨j + 1, true, by go_num, by omega, rfl, hn2, Lib.hid (by first | trivial | rfl)⟩, by simp [RowKit.intOf]; omega⟩
            · have s2 : ¬ (x.size : Int) ≤ 32 := by omega
              have hn2 : Hid (tk (j + 1) = false) := Lib.hid (by rw [hnx.out, htb.out, htv]; simp [x1, x2])
              clear htv
              go_wp2_with fail
              exact ⟨⟨j + 1, false, by go_num, by omega, rfl, hn2, Lib.hid (by first | trivial | rfl)⟩, by simp [RowKit.intOf]; omega⟩
          · have s1 : ¬ (1 : Int) ≤ (x.size : Int) := by omega
            have hn2 : Hid (tk (j + 1) = false) := Lib.hid (by rw [hnx.out, htb.out, htv]; simp [x1])
            clear htv
            go_wp2_with fail
            exact ⟨⟨j + 1, false, by go_num, by omega, rfl, hn2, Lib.hid (by first | trivial | rfl)⟩, by simp [RowKit.intOf]; omega⟩
      · have t1 : ¬ (j : Int) < (pf.length : Int) := by omega
        have hje : j = pf.length := by omega
        have htv : tb = decide (en = 0) := by rw [← htb.out, hje, HTA.out]
        obtain ⟨q2, z2, hql2, hz13, hqok, hu⟩ := asked_unif b
        have hpk := pasked_any b wr (by omega) ((unhide HM).below (unhide HX4).b (unhide HM).lt)
        have HP := hide hpk; have HU := hide hu; have HQ := hide hqok; have HZ := Lib.hid hz13
        clear hpk hu hqok hz13 c0 c2
        have hfin : (en = 0 ∧ z = 0) ∨ (¬ en = 0 ∧ z = 13) := by
          rcases hcase.out with ⟨h1, h2, -⟩ | ⟨h1, h2⟩
          · exact .inl ⟨h1, h2⟩
          · exact .inr ⟨h1, h2⟩
        clear hje
        obtain ⟨wv, hwv⟩ : ∃ wv : World, wv = wr := ⟨_, rfl⟩
        go_upto_region 9 with fail
        go_cut [83] (fun s83 wx => s83 = .bool false ∧ wx = wv)
        case first =>
          rcases hfin with ⟨h1, h2⟩ | ⟨h1, h2⟩
          · have e1 : tb = true := by rw [htv]; simp [h1]
            have e2 : bb = true := hbb.out h1
            subst h1 h2 e1 e2
            clear htv
            go_wp2_with fail
            go_meet
            case rel => exact ⟨rfl, hwv.symm⟩
          · have e1 : tb = false := by rw [htv]; simp [h1]
            subst h2 e1
            have y1 : ((en : Int) == 0) = false := by rw [beq_eq_false_iff_ne]; omega
            have y2 : ¬ (en : Int) = 0 := by omega
            clear htv h1
            go_wp2_with fail
            go_meet
            case rel => exact ⟨rfl, hwv.symm⟩
        case rest =>
          obtain ⟨rfl, hw3⟩ := hcut
          rw [hwv] at hw3
          subst hw3
          clear hwv
          go_wp2_with fail
          refine (unhide HP).mono ?_
          rintro e5 w5 ⟨hT5, hb5⟩
          obtain ⟨A5, c5, rfl, hO5⟩ := (unhide HU) _ _ _ hT5
          have hX6 := ((unhide HX4).next hb5).next ((Below.refl w5.heap.size w5).alloc (Nat.le_refl _) (.cells #[.int .i64 q2.old, .slice A5 q2.pf.length c5, .string q2.nt] 24))
          have hQ6 := Blk.new w5 24 #[.int .i64 q2.old, .slice A5 q2.pf.length c5, .string q2.nt]
          have hO6 := ownT_strsQ (World.ownsRow.alloc hO5 (.cells #[.int .i64 q2.old, .slice A5 q2.pf.length c5, .string q2.nt] 24))
          have d0 := hQ6.cell 0; have d1 := hQ6.cell 1; have d2 := hQ6.cell 2
          simp only [List.getElem?_toArray, List.getElem?_cons_zero, List.getElem?_cons_succ] at d0 d1 d2
          have HX6 := hide (And.intro hX6 hO6)
          clear hT5 hb5 hO5 hX6 hQ6 hO6 HP HU
          rcases HZ.out with hz0 | hz1
          · have h7 := (unhide HQ) hz0
            subst hz0
            have hin7 : In64P q2.old := ⟨by have := h7.1.1; omega, by have := h7.1.2.1; omega⟩
            have hnt7 : q2.nt.size ≤ 1048577 := by
              have h8 := congrArg ByteArray.size h7.2
              have h9 : (askB q2).size = (headL q2 ++ 10 :: 10 :: q2.nt.data.toList).length := by show (List.toArray _).size = _; rw [List.size_toArray]
              have hl : q2.nt.data.toList.length = q2.nt.size := Array.length_toList
              rw [h9] at h8
              simp only [List.length_append, List.length_cons, hl] at h8
              omega
            have hA7 := pask_any q2 _ _ (unhide HX6).2 hin7 (by omega) (by omega)
            rw [askV_ok (askE_ok.2 h7.1), h7.2] at hA7
            have HA7 := hide hA7
            clear hA7 h7 hin7 hnt7 HZ HQ
            go_wp2_with fail
            refine (unhide HA7).mono ?_
            rintro e8 w8 ⟨rfl, hb8⟩
            have HX8 := hide ((unhide HX6).1.next hb8)
            have hbb2 : (b.toList == b.toList) = true := beq_self_eq_true _
            clear hb8 HA7 d0 d1 d2
            go_wp2_with fail
            go_ret
            exact ⟨rfl, (unhide HX8).b⟩
          · subst hz1
            clear HZ HQ
            go_wp2_with fail
            go_ret
            exact ⟨rfl, (unhide HX6).1.b⟩
set_option maxRecDepth 100000 in
theorem peerAskBack_walk {H : Type} {enc : TypeId × Value → H} (W : World) (base : Nat) (v0 : Value) (d0 : DataW H) (p0 : List MemPlace) (v1 : Value) (d1 : DataW H) (p1 : List MemPlace) (o0 : Value.okWide Tryd.prog W .any base 24 v0) (h0 : DataW.Trod enc Tryd.prog W 0 (fun _ => true) true 24 v0 d0 p0) (l0 : ∀ x ∈ p0, x.block < W.heap.size) (o1 : Value.okWide Tryd.prog W .any base 9 v1) (h1 : DataW.Trod enc Tryd.prog W 0 (fun _ => true) true 9 v1 d1 p1) (l1 : ∀ x ∈ p1, x.block < W.heap.size) (hz : (DataW.weightsEach Tryd.prog [24, 9] ([d0, d1] : List (DataW H))).all (· ≤ reachBytes) = true) (hk : Rows.uptoBulkAll ([d0, d1] : List (DataW H)) ≤ 1048576) (hL : laidMetH Tryd.prog Rows.peerAskBackUptoRow.laid W) (hsh : W.ShapedOpen Tryd.prog) :
    Calls Tryd.prog 4 #[v0, v1] W fun e W' => e = .returned (.bool true) ∧ Below W.heap.size W W' := by
  obtain ⟨c, vs, S, nt, rfl, hc, hS, hb⟩ := open_request o0 h0
  obtain ⟨s, rfl, rfl, -⟩ := Go.ChangeMaps.open_string Tryd.underlying9 o1 h1
  simp only [Rows.uptoBulkAll, Rows.uptoBulk, Array.length_toList] at hk
  have hsz : s.data.size = s.size := rfl
  have hl := textsW_len S
  exact lawPeerAskBack_any ⟨c, S, nt⟩ vs s W hS hc (by simp only; omega) (by simp only; omega) (by omega) (max_k hsh)
end Go.Proofs.YtphjpdnheaeghaaDoor

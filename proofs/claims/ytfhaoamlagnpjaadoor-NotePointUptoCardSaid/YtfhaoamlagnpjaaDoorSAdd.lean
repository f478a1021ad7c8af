/-
  CONTRACTS of note.Add and of the document's Add.
-/
import Derived.Test.YtfhaoamlagnpjaaDoorRows
import Derived.Deep.DeepMust
import Derived.Test.YtfhaoamlagnpjaaDoorGBase
import Derived.Test.YtfhaoamlagnpjaaDoorGMacs
import Derived.Test.YtfhaoamlagnpjaaDoorGSigs
import Derived.Test.YtfhaoamlagnpjaaDoorSRAmong
import Derived.Test.YtfhaoamlagnpjaaDoorSSignature
import Derived.Test.YtfhaoamlagnpjaaDoorSWritten
import Derived.Test.YtfhaoamlagnpjaaDoorSRWritten
import Derived.Test.YtfhaoamlagnpjaaDoorGKs
import Derived.Test.YtfhaoamlagnpjaaDoorGRd
import Derived.Test.YtfhaoamlagnpjaaDoorSRRead
import Derived.Test.YtfhaoamlagnpjaaDoorGOp
set_option linter.unusedVariables false
set_option linter.unusedSimpArgs false
namespace Go.Proofs.YtfhaoamlagnpjaaDoor
open Go.RowKit Go.Lib
/-- What Add answers. -/
def addA (note : ByteArray) (k : KeyR) : Value :=
  if nameOk k.nm = false then .tuple #[.string ⟨#[]⟩, .int .i64 203]
  else if 65536 < note.size then .tuple #[.string ⟨#[]⟩, .int .i64 121]
  else match readV note with
    | none => .tuple #[.string ⟨#[]⟩, .int .i64 200]
    | some (t, S) =>
      if amongV S (keySig t k) = true then .tuple #[.string note, .int .i64 0]
      else if S.length = 16 then .tuple #[.string ⟨#[]⟩, .int .i64 83]
      else writA t (S ++ [keySig t k])
theorem addA_form (note : ByteArray) (k : KeyR) : ∃ (x : ByteArray) (z : Nat), addA note k = .tuple #[.string x, .int .i64 z] ∧ z < 1000 := by
  unfold addA
  split
  · exact ⟨_, 203, rfl, by decide⟩
  · split
    · exact ⟨_, 121, rfl, by decide⟩
    · split
      · exact ⟨_, 200, rfl, by decide⟩
      · split
        · exact ⟨_, 0, rfl, by decide⟩
        · split
          · exact ⟨_, 83, rfl, by decide⟩
          · exact writA_form _ _
set_option maxRecDepth 100000 in
set_option maxHeartbeats 4000000 in
theorem add_any (note : ByteArray) (k : KeyR) (w : World) (hs : note.size ≤ 1099511627776) (hk : k.nm.size ≤ 1099511627776 ∧ k.sc.size ≤ 1099511627776) (hT : PTab w) (hU : Lib.Utf8Tabs 3 4 w) (hM : MaxOk w) :
    Calls Tryd.prog 29 #[.string note, keyV k] w fun e w' => e = .returned (addA note k) ∧ Below w.heap.size w w' := by
  obtain ⟨kn, ksc⟩ := k
  simp only at hk
  unfold keyV
  have hb0 : Below w.heap.size w (w.alloc (.cells #[.string kn, .string ksc] 27)) := (Below.refl _ _).alloc (Nat.le_refl _) _
  have hK0 : Blk (w.alloc (.cells #[.string kn, .string ksc] 27)) w.heap.size 27 #[.string kn, .string ksc] := Blk.new _ _ _
  have hna := fun W => name_any kn W (by simp only [maxLen]; omega)
  have hrd := read_any note (w.alloc (.cells #[.string kn, .string ksc] 27)) hs (hM.below hb0 hM.lt) (Tabs.below hU hb0 (Tabs.lt3 hU) (Tabs.lt4 hU))
  have HNA := hide hna; have HRD := hide hrd; have HT := hide hT; have H0 := hide (And.intro hb0 hK0); clear hna hrd hT hU hM hb0 hK0
  cases hno : nameOk kn with
  | false =>
    have hres : Hid (addA note ⟨kn, ksc⟩ = .tuple #[.string ⟨#[]⟩, .int .i64 203]) := by unfold addA; rw [Hid, if_pos hno]
    rw [hno] at HNA
    go_enter Tryd.func29, Tryd.ntmps29
    go_wp2_with fail
    refine (unhide HNA _).mono ?_
    rintro e w1 ⟨rfl, rfl⟩
    go_wp2_with fail
    go_ret2
    exact ⟨by rw [hres.out]; rfl, (unhide H0).1⟩
  | true =>
    have hres0 : Hid (addA note ⟨kn, ksc⟩ = if 65536 < note.size then .tuple #[.string ⟨#[]⟩, .int .i64 121] else match readV note with
        | none => .tuple #[.string ⟨#[]⟩, .int .i64 200]
        | some (t, S) => if amongV S (keySig t ⟨kn, ksc⟩) = true then .tuple #[.string note, .int .i64 0] else if S.length = 16 then .tuple #[.string ⟨#[]⟩, .int .i64 83] else writA t (S ++ [keySig t ⟨kn, ksc⟩])) := by unfold addA; rw [Hid, if_neg (by rw [hno]; decide)]
    rw [hno] at HNA
    go_enter Tryd.func29, Tryd.ntmps29
    go_wp2_with fail
    refine (unhide HNA _).mono ?_
    rintro e w1 ⟨rfl, hw1⟩
    have HW1 := hide hw1; clear hw1
    go_wp2_with fail
    rw [← unhide HW1]
    refine (unhide HRD).mono ?_
    rintro e w2 ⟨hR, hb2⟩
    have hb2' := (unhide H0).1.trans (hb2.mono (unhide H0).1.size)
    have hK2 := (unhide H0).2.below hb2 (unhide H0).2.lt
    have k0 := hK2.cell 0; have k1 := hK2.cell 1
    simp only [List.getElem?_toArray, List.getElem?_cons_zero, List.getElem?_cons_succ] at k0 k1
    have H2 := hide hb2'; clear hb2 hb2' hK2 HRD H0 HNA HW1
    rcases hR with ⟨h6, rfl⟩ | ⟨h6, hrv, rfl⟩ | ⟨h6, t, S, vs, hrv, rfl, hO⟩
    · have hres : Hid (addA note ⟨kn, ksc⟩ = .tuple #[.string ⟨#[]⟩, .int .i64 121]) := by rw [Hid, hres0.out, if_pos h6]
      clear hres0 h6
      go_wp2_with fail
      go_ret2
      exact ⟨by rw [hres.out]; rfl, unhide H2⟩
    · have hres : Hid (addA note ⟨kn, ksc⟩ = .tuple #[.string ⟨#[]⟩, .int .i64 200]) := by rw [Hid, hres0.out, if_neg (by omega), hrv]
      clear hres0 hrv
      go_wp2_with fail
      go_ret2
      exact ⟨by rw [hres.out]; rfl, unhide H2⟩
    · have hres1 : Hid (addA note ⟨kn, ksc⟩ = if amongV S (keySig t ⟨kn, ksc⟩) = true then .tuple #[.string note, .int .i64 0] else if S.length = 16 then .tuple #[.string ⟨#[]⟩, .int .i64 83] else writA t (S ++ [keySig t ⟨kn, ksc⟩])) := by rw [Hid, hres0.out, if_neg (by omega), hrv]
      obtain ⟨hsok, hS1, hS16, hgt, htz⟩ := readV_ok hrv
      obtain ⟨As, cs, rfl⟩ := hO.slice
      have hsg := sign_any2 kn ksc t w2 (by omega) (by omega) (by omega) ((unhide HT).next (unhide H2))
      have hxe : keySig t ⟨kn, ksc⟩ = sigOf kn ksc t := rfl
      have hxo : SigOk (keySig t ⟨kn, ksc⟩) := keySig_ok hno
      have hsl := sigsL_ok (S ++ [keySig t ⟨kn, ksc⟩]) (fun x hx => by
        rcases List.mem_append.1 hx with h | h
        · exact hsok x h
        · simp at h; rw [h]; exact hxo)
      have hall : ∀ x ∈ S ++ [keySig t ⟨kn, ksc⟩], x.id.size ≤ 1099511627776 ∧ x.mc.size ≤ 1099511627776 := fun x hx => by
        have h : SigOk x := by
          rcases List.mem_append.1 hx with h | h
          · exact hsok x h
          · simp at h; rw [h]; exact hxo
        unfold SigOk at h; omega
      rw [← hxe] at hsg
      generalize keySig t ⟨kn, ksc⟩ = X at *
      obtain ⟨xn, xi, xm⟩ := X
      unfold sigV at hsg
      rw [List.length_append] at hsl
      have HSG := hide hsg; have HO := hide hO; have HSL := hide (And.intro hsl hall)
      clear hsg hxe hxo hsok hrv hO hsl hgt hres0 hno hall
      go_wp2_with fail
      refine (unhide HSG).mono ?_
      rintro e w3 ⟨rfl, hb3⟩
      have hb4 : Below w2.heap.size w2 (w3.alloc (.cells #[.string xn, .string xi, .string xm] 71)) := hb3.alloc hb3.size _
      have hO4 := (unhide HO).below hb4
      have hX4 : Blk (w3.alloc (.cells #[.string xn, .string xi, .string xm] 71)) w3.heap.size 71 #[.string xn, .string xi, .string xm] := Blk.new _ _ _
      have hw4 := (unhide H2).trans (hb4.mono (unhide H2).size)
      have ham := among_any (.slice As S.length cs) S ⟨xn, xi, xm⟩ _ _ (by omega) hO4
      unfold sigV at ham
      have hg9 : w.heap.size ≤ w3.heap.size := Nat.le_trans (unhide H2).size hb3.size
      have H4 := hide (And.intro hO4 (And.intro hX4 hw4)); have HAM := hide ham
      clear hb3 hb4 hO4 hX4 hw4 ham HSG HO k0 k1
      go_wp2_with fail
      generalize w3.heap.size = g9 at *
      generalize (w3.alloc (.cells #[.string xn, .string xi, .string xm] 71)) = w4 at *
      refine (unhide HAM).mono ?_
      rintro e w5 ⟨rfl, hb5⟩
      have hO5 := (unhide H4).1.below hb5
      have hX5 := (unhide H4).2.1.below hb5 (unhide H4).2.1.lt
      have hw5 := (unhide H4).2.2.trans (hb5.mono (unhide H4).2.2.size)
      have k0 := hX5.cell 0; have k1 := hX5.cell 1; have k2 := hX5.cell 2
      simp only [List.getElem?_toArray, List.getElem?_cons_zero, List.getElem?_cons_succ] at k0 k1 k2
      have hz5 := hw5.size
      have hb1 : w.heap.size + 1 ≤ w5.heap.size := by have := hX5.lt; omega
      have H5 := hide (And.intro hO5 hw5)
      clear hO5 hX5 hw5 hb5 HAM H4
      cases ham : amongV S ⟨xn, xi, xm⟩ with
      | true =>
        have hres : Hid (addA note ⟨kn, ksc⟩ = .tuple #[.string note, .int .i64 0]) := by rw [Hid, hres1.out, if_pos ham]
        clear hres1 ham
        go_wp2_with fail
        go_ret2
        exact ⟨by rw [hres.out]; rfl, (unhide H5).2⟩
      | false =>
        by_cases h16 : S.length = 16
        · have hres : Hid (addA note ⟨kn, ksc⟩ = .tuple #[.string ⟨#[]⟩, .int .i64 83]) := by rw [Hid, hres1.out, if_neg (by rw [ham]; decide), if_pos h16]
          have h16' : ((S.length : Int) == 16) = true := by rw [h16]; rfl
          clear hres1 ham h16
          go_wp2_with fail
          go_ret2
          exact ⟨by rw [hres.out]; rfl, (unhide H5).2⟩
        · have hres : Hid (addA note ⟨kn, ksc⟩ = writA t (S ++ [⟨xn, xi, xm⟩])) := by rw [Hid, hres1.out, if_neg (by rw [ham]; decide), if_neg h16]
          have h16' : ((S.length : Int) == 16) = false := by rw [beq_eq_false_iff_ne]; omega
          clear hres1 ham
          go_wp2_with (at_builtin; go_must (refine wpList_appG1_at w5 w5.heap.size rfl rfl _ _ rfl (y := ⟨xn, xi, xm⟩) (unhide H5).1 rfl rfl (by omega) (by rw [World.size_alloc]; omega) ?_); intro v8 w8 hO8 hg8 hat8; have hw8 := ((unhide H5).2.alloc (unhide H5).2.size (.cells #[.string xn, .string xi, .string xm] 71)).grown hg8 (by simp; omega) (fun q hq => by have h9 := ((unhide H5).1.lt _ hq).1; rw [World.size_alloc] at h9; omega); have hwr := written_any t v8 (S ++ [⟨xn, xi, xm⟩]) _ w8 (by omega) (by have h9 := (unhide HSL).1; simp at h9; omega) (unhide HSL).2 (by simp; omega) hO8; have HW8 := hide hw8; have HWR := hide hwr; clear hO8 hg8 hat8 hw8 hwr)
          obtain ⟨x, z, hf, -⟩ := writA_form t (S ++ [⟨xn, xi, xm⟩])
          rw [hf] at HWR
          have hres2 : Hid (addA note ⟨kn, ksc⟩ = .tuple #[.string x, .int .i64 (z : Nat)]) := by rw [Hid, hres.out, hf]
          clear hres hf HSL
          refine (unhide HWR).mono ?_
          rintro e w9 ⟨rfl, hb9⟩
          have hw9 := (unhide HW8).trans (hb9.mono (unhide HW8).size)
          have H9 := hide hw9; clear hb9 hw9 HWR HW8
          go_wp2_with fail
          go_ret2
          exact ⟨by rw [hres2.out]; rfl, unhide H9⟩
set_option maxRecDepth 100000 in
set_option maxHeartbeats 4000000 in
theorem radd_any (note : ByteArray) (k : KeyR) (w : World) (hs : note.size ≤ 1099511627776) (hk : k.nm.size ≤ 1099511627776 ∧ k.sc.size ≤ 1099511627776) (hT : RTab w) :
    Calls Tryd.prog 30 #[.string note, keyV k] w fun e w' => e = .returned (addA note k) ∧ Below w.heap.size w w' := by
  obtain ⟨kn, ksc⟩ := k
  simp only at hk
  unfold keyV
  have hb0 : Below w.heap.size w (w.alloc (.cells #[.string kn, .string ksc] 27)) := (Below.refl _ _).alloc (Nat.le_refl _) _
  have hK0 : Blk (w.alloc (.cells #[.string kn, .string ksc] 27)) w.heap.size 27 #[.string kn, .string ksc] := Blk.new _ _ _
  have hT0 := hT.alloc (.cells #[.string kn, .string ksc] 27)
  have hid := rID_any kn ksc _ (by omega) (by omega) hT0.1 hT0.2
  have HID := hide hid; have HT := hide hT; have H0 := hide (And.intro hb0 hK0); clear hid hT hb0 hK0 hT0
  cases hno : nameOk kn with
  | false =>
    have hres : Hid (addA note ⟨kn, ksc⟩ = .tuple #[.string ⟨#[]⟩, .int .i64 203]) := by unfold addA; rw [Hid, if_pos hno]
    have hiv : idV kn ksc = .tuple #[.string ⟨#[]⟩, .int .i64 203] := by unfold idV; rw [if_neg (by rw [hno]; decide)]
    rw [hiv] at HID
    clear hno hiv
    go_enter Tryd.func30, Tryd.ntmps30
    go_wp2_with fail
    refine (unhide HID).mono ?_
    rintro e w1 ⟨rfl, hb1⟩
    have hw1 := (unhide H0).1.trans (hb1.mono (unhide H0).1.size)
    have H1 := hide hw1; clear hb1 hw1
    go_wp2_with fail
    go_ret2
    exact ⟨by rw [hres.out]; rfl, unhide H1⟩
  | true =>
    have hres0 : Hid (addA note ⟨kn, ksc⟩ = if 65536 < note.size then .tuple #[.string ⟨#[]⟩, .int .i64 121] else match readV note with
        | none => .tuple #[.string ⟨#[]⟩, .int .i64 200]
        | some (t, S) => if amongV S (keySig t ⟨kn, ksc⟩) = true then .tuple #[.string note, .int .i64 0] else if S.length = 16 then .tuple #[.string ⟨#[]⟩, .int .i64 83] else writA t (S ++ [keySig t ⟨kn, ksc⟩])) := by unfold addA; rw [Hid, if_neg (by rw [hno]; decide)]
    have hiv : idV kn ksc = .tuple #[.string ⟨(keyIDL kn.data.toList ksc.data.toList).toArray⟩, .int .i64 0] := by unfold idV; rw [if_pos hno]
    rw [hiv] at HID
    clear hiv
    go_enter Tryd.func30, Tryd.ntmps30
    go_wp2_with fail
    refine (unhide HID).mono ?_
    rintro e w1 ⟨rfl, hb1⟩
    have hw1 := (unhide H0).1.trans (hb1.mono (unhide H0).1.size)
    have hK1 := (unhide H0).2.below hb1 (unhide H0).2.lt
    have hrd := rread_any note w1 hs
    have H1 := hide (And.intro hw1 hK1); have HRD := hide hrd; clear hb1 hw1 hK1 hrd HID H0
    go_wp2_with fail
    refine (unhide HRD).mono ?_
    rintro e w2 ⟨hR, hb2⟩
    have hb2' := (unhide H1).1.trans (hb2.mono (unhide H1).1.size)
    have hK2 := (unhide H1).2.below hb2 (unhide H1).2.lt
    have k0 := hK2.cell 0; have k1 := hK2.cell 1
    simp only [List.getElem?_toArray, List.getElem?_cons_zero, List.getElem?_cons_succ] at k0 k1
    have hz2 := hb2.size; have hbase := (unhide H1).1.size
    have H2 := hide hb2'; clear hb2 hb2' hK2 HRD H1
    rcases hR with ⟨h6, rfl⟩ | ⟨h6, hrv, rfl⟩ | ⟨h6, t, S, vs, hrv, rfl, hO⟩
    · have hres : Hid (addA note ⟨kn, ksc⟩ = .tuple #[.string ⟨#[]⟩, .int .i64 121]) := by rw [Hid, hres0.out, if_pos h6]
      clear hres0 h6
      go_wp2_with fail
      go_ret2
      exact ⟨by rw [hres.out]; rfl, unhide H2⟩
    · have hres : Hid (addA note ⟨kn, ksc⟩ = .tuple #[.string ⟨#[]⟩, .int .i64 200]) := by rw [Hid, hres0.out, if_neg (by omega), hrv]
      clear hres0 hrv
      go_wp2_with fail
      go_ret2
      exact ⟨by rw [hres.out]; rfl, unhide H2⟩
    · have hres1 : Hid (addA note ⟨kn, ksc⟩ = if amongV S (keySig t ⟨kn, ksc⟩) = true then .tuple #[.string note, .int .i64 0] else if S.length = 16 then .tuple #[.string ⟨#[]⟩, .int .i64 83] else writA t (S ++ [keySig t ⟨kn, ksc⟩])) := by rw [Hid, hres0.out, if_neg (by omega), hrv]
      obtain ⟨hsok, hS1, hS16, hgt, htz⟩ := readV_ok hrv
      obtain ⟨As, cs, rfl⟩ := hO.slice
      have hsg := rsign_any kn ksc t w2 (by omega) (by omega) (by omega) ((unhide HT).next (unhide H2))
      have hxe : keySig t ⟨kn, ksc⟩ = sigOf kn ksc t := rfl
      have hxo : SigOk (keySig t ⟨kn, ksc⟩) := keySig_ok hno
      have hsl := sigsL_ok (S ++ [keySig t ⟨kn, ksc⟩]) (fun x hx => by
        rcases List.mem_append.1 hx with h | h
        · exact hsok x h
        · simp at h; rw [h]; exact hxo)
      have hall : ∀ x ∈ S ++ [keySig t ⟨kn, ksc⟩], x.id.size ≤ 1099511627776 ∧ x.mc.size ≤ 1099511627776 := fun x hx => by
        have h : SigOk x := by
          rcases List.mem_append.1 hx with h | h
          · exact hsok x h
          · simp at h; rw [h]; exact hxo
        unfold SigOk at h; omega
      rw [← hxe] at hsg
      generalize keySig t ⟨kn, ksc⟩ = X at *
      obtain ⟨xn, xi, xm⟩ := X
      unfold sigV at hsg
      rw [List.length_append] at hsl
      have HSG := hide hsg; have HO := hide hO; have HSL := hide (And.intro hsl hall)
      clear hsg hxe hxo hsok hrv hO hsl hgt hres0 hno hall
      go_wp2_with fail
      refine (unhide HSG).mono ?_
      rintro e w3 ⟨rfl, hb3⟩
      have hb4 : Below w2.heap.size w2 (w3.alloc (.cells #[.string xn, .string xi, .string xm] 71)) := hb3.alloc hb3.size _
      have hO4 := (unhide HO).below hb4
      have hX4 : Blk (w3.alloc (.cells #[.string xn, .string xi, .string xm] 71)) w3.heap.size 71 #[.string xn, .string xi, .string xm] := Blk.new _ _ _
      have hw4 := (unhide H2).trans (hb4.mono (unhide H2).size)
      have ham := ramong_any (.slice As S.length cs) S ⟨xn, xi, xm⟩ _ _ (by omega) hO4
      unfold sigV at ham
      have hg9 : w1.heap.size ≤ w3.heap.size := Nat.le_trans hz2 hb3.size
      have H4 := hide (And.intro hO4 (And.intro hX4 hw4)); have HAM := hide ham
      clear hb3 hb4 hO4 hX4 hw4 ham HSG HO k0 k1
      go_wp2_with fail
      generalize w3.heap.size = g9 at *
      generalize (w3.alloc (.cells #[.string xn, .string xi, .string xm] 71)) = w4 at *
      refine (unhide HAM).mono ?_
      rintro e w5 ⟨rfl, hb5⟩
      have hO5 := (unhide H4).1.below hb5
      have hX5 := (unhide H4).2.1.below hb5 (unhide H4).2.1.lt
      have hw5 := (unhide H4).2.2.trans (hb5.mono (unhide H4).2.2.size)
      have k0 := hX5.cell 0; have k1 := hX5.cell 1; have k2 := hX5.cell 2
      simp only [List.getElem?_toArray, List.getElem?_cons_zero, List.getElem?_cons_succ] at k0 k1 k2
      have hz5 := hw5.size
      have hb1 : w1.heap.size + 1 ≤ w5.heap.size := by have := hX5.lt; omega
      have H5 := hide (And.intro hO5 hw5)
      clear hO5 hX5 hw5 hb5 HAM H4
      cases ham : amongV S ⟨xn, xi, xm⟩ with
      | true =>
        have hres : Hid (addA note ⟨kn, ksc⟩ = .tuple #[.string note, .int .i64 0]) := by rw [Hid, hres1.out, if_pos ham]
        clear hres1 ham
        go_wp2_with fail
        go_ret2
        exact ⟨by rw [hres.out]; rfl, (unhide H5).2⟩
      | false =>
        by_cases h16 : S.length = 16
        · have hres : Hid (addA note ⟨kn, ksc⟩ = .tuple #[.string ⟨#[]⟩, .int .i64 83]) := by rw [Hid, hres1.out, if_neg (by rw [ham]; decide), if_pos h16]
          have h16' : ((S.length : Int) == 16) = true := by rw [h16]; rfl
          clear hres1 ham h16
          go_wp2_with fail
          go_ret2
          exact ⟨by rw [hres.out]; rfl, (unhide H5).2⟩
        · have hres : Hid (addA note ⟨kn, ksc⟩ = writA t (S ++ [⟨xn, xi, xm⟩])) := by rw [Hid, hres1.out, if_neg (by rw [ham]; decide), if_neg h16]
          have h16' : ((S.length : Int) == 16) = false := by rw [beq_eq_false_iff_ne]; omega
          clear hres1 ham
          go_wp2_with (at_builtin; go_must (refine wpList_appG1_at w5 w5.heap.size rfl rfl _ _ rfl (y := ⟨xn, xi, xm⟩) (unhide H5).1 rfl rfl (by omega) (by omega) ?_); intro v8 w8 hO8 hg8 hat8; have hw8 := ((unhide H5).2.alloc (unhide H5).2.size (.cells #[.string xn, .string xi, .string xm] 71)).grown hg8 (by simp; omega) (fun q hq => by have h9 := ((unhide H5).1.lt _ hq).1; omega); have hwr := rwritten_any t v8 (S ++ [⟨xn, xi, xm⟩]) _ w8 (by omega) (by have h9 := (unhide HSL).1; simp at h9; omega) (unhide HSL).2 (by simp; omega) hO8; have HW8 := hide hw8; have HWR := hide hwr; clear hO8 hg8 hat8 hw8 hwr)
          refine (unhide HWR).mono ?_
          rintro e w9 ⟨rfl, hb9⟩
          have hw9 := (unhide HW8).trans (hb9.mono (unhide HW8).size)
          have H9 := hide hw9; clear hb9 hw9 HWR HW8
          have hwz : (writB t (S ++ [⟨xn, xi, xm⟩])).size = (writL t (S ++ [⟨xn, xi, xm⟩])).length := by
            show (writL t (S ++ [⟨xn, xi, xm⟩])).toArray.size = _
            rw [List.size_toArray]
          by_cases h65 : 65536 < (writL t (S ++ [⟨xn, xi, xm⟩])).length
          · have hres2 : Hid (addA note ⟨kn, ksc⟩ = .tuple #[.string ⟨#[]⟩, .int .i64 121]) := by rw [Hid, hres.out]; unfold writA; rw [if_pos h65]
            have h65' : (65536 : Int) < ((writB t (S ++ [⟨xn, xi, xm⟩])).size : Int) := by omega
            clear hres hwz h65
            generalize writB t (S ++ [⟨xn, xi, xm⟩]) = B at *
            go_wp2_with fail
            go_ret2
            exact ⟨by rw [hres2.out]; rfl, unhide H9⟩
          · have hres2 : Hid (addA note ⟨kn, ksc⟩ = .tuple #[.string (writB t (S ++ [⟨xn, xi, xm⟩])), .int .i64 0]) := by rw [Hid, hres.out]; unfold writA; rw [if_neg h65]
            have h65' : ¬ (65536 : Int) < ((writB t (S ++ [⟨xn, xi, xm⟩])).size : Int) := by omega
            clear hres hwz h65
            generalize writB t (S ++ [⟨xn, xi, xm⟩]) = B at *
            go_wp2_with fail
            go_ret2
            exact ⟨by rw [hres2.out]; rfl, unhide H9⟩
end Go.Proofs.YtfhaoamlagnpjaaDoor

/-
  Several texts in one: CONTRACTS of note.Add and of the document's Add. | CONTRACTS of the law's helpers: texts, num. | FROM THE ROW's CONDITION ON THE LAID TABLES: what is of no program. | FROM THE ROW's CONDITION ON THE LAID TABLES to what the walks read. | AN ARGUMENT of type api.Key, opened. | AN ARGUMENT of type api.Checkpoint, opened; the utf8 tables out of the row's condition. | The variable internal/bytealg.MaxLen holds a number, in whatever world that has its variables' shapes. | THE WALK of the law NoteAdd.
-/
import Derived.Test.YtfhaoamlagnpjaaDoorRows
import Derived.Deep.DeepMust
import Derived.Deep.QuietTactic
import Derived.BigQuiet
import Derived.Lib.LaidTab
import Derived.Lib.SmallJoins
import Derived.ChangeMaps5
import Derived.Lib.LaidU8T
import Derived.Deep.Strs
import Derived.Test.YtfhaoamlagnpjaaDoorGNoteAdd1
import Derived.Test.YtfhaoamlagnpjaaDoorGNoteAdd3
import Derived.Test.YtfhaoamlagnpjaaDoorGNoteAdd7
import Derived.Test.YtfhaoamlagnpjaaDoorGNoteAdd8
import Derived.Test.YtfhaoamlagnpjaaDoorGNoteAdd9
import Derived.Test.YtfhaoamlagnpjaaDoorGNoteAdd13
import Derived.Test.YtfhaoamlagnpjaaDoorGNoteAdd15
import Derived.Test.YtfhaoamlagnpjaaDoorGNoteAdd16
import Derived.Test.YtfhaoamlagnpjaaDoorGNoteAdd5
import Derived.Test.YtfhaoamlagnpjaaDoorGNoteAdd4
import Derived.Test.YtfhaoamlagnpjaaDoorGNoteAdd6
import Derived.Test.YtfhaoamlagnpjaaDoorGNoteAdd11
set_option linter.unusedVariables false
set_option linter.unusedSimpArgs false
namespace Go.Proofs.YtfhaoamlagnpjaaDoor
open Go.RowKit Go.Lib
/-- What Add answers. -/
def addA (note : ByteArray) (k : KeyR) : Value :=
  if nameOk k.nm = false then .tuple #[.string ⟨#[]⟩, .int .i64 203]
  else if 65536 < note.size then .tuple #[.string ⟨#[]⟩, .int .i64 121]
  else match readV note with
    | none => .tuple #[.string ⟨#[]⟩, .int .i64 200]
    | some (t, S) =>
      if amongV S (keySig t k) = true then .tuple #[.string note, .int .i64 0]
      else if S.length = 16 then .tuple #[.string ⟨#[]⟩, .int .i64 83]
      else writA t (S ++ [keySig t k])
theorem addA_form (note : ByteArray) (k : KeyR) : ∃ (x : ByteArray) (z : Nat), addA note k = .tuple #[.string x, .int .i64 z] ∧ z < 1000 := by
  unfold addA
  split
  · exact ⟨_, 203, rfl, by decide⟩
  · split
    · exact ⟨_, 121, rfl, by decide⟩
    · split
      · exact ⟨_, 200, rfl, by decide⟩
      · split
        · exact ⟨_, 0, rfl, by decide⟩
        · split
          · exact ⟨_, 83, rfl, by decide⟩
          · exact writA_form _ _
set_option maxRecDepth 100000 in
set_option maxHeartbeats 4000000 in
theorem add_any (note : ByteArray) (k : KeyR) (w : World) (hs : note.size ≤ 1099511627776) (hk : k.nm.size ≤ 1099511627776 ∧ k.sc.size ≤ 1099511627776) (hT : PTab w) (hU : Lib.Utf8Tabs 3 4 w) (hM : MaxOk w) :
    Calls Tryd.prog 29 #[.string note, keyV k] w fun e w' => e = .returned (addA note k) ∧ Below w.heap.size w w' := by
  obtain ⟨kn, ksc⟩ := k
  simp only at hk
  unfold keyV
  have hb0 : Below w.heap.size w (w.alloc (.cells #[.string kn, .string ksc] 27)) := (Below.refl _ _).alloc (Nat.le_refl _) _
  have hK0 : Blk (w.alloc (.cells #[.string kn, .string ksc] 27)) w.heap.size 27 #[.string kn, .string ksc] := Blk.new _ _ _
  have hna := fun W => name_any kn W (by simp only [maxLen]; omega)
  have hrd := read_any note (w.alloc (.cells #[.string kn, .string ksc] 27)) hs (hM.below hb0 hM.lt) (Tabs.below hU hb0 (Tabs.lt3 hU) (Tabs.lt4 hU))
  have HNA := hide hna; have HRD := hide hrd; have HT := hide hT; have H0 := hide (And.intro hb0 hK0); clear hna hrd hT hU hM hb0 hK0
  cases hno : nameOk kn with
  | false =>
    have hres : Hid (addA note ⟨kn, ksc⟩ = .tuple #[.string ⟨#[]⟩, .int .i64 203]) := by unfold addA; rw [Hid, if_pos hno]
    rw [hno] at HNA
    go_enter Tryd.func29, Tryd.ntmps29
    go_wp2_with fail
    refine (unhide HNA _).mono ?_
    rintro e w1 ⟨rfl, rfl⟩
    go_wp2_with fail
    go_ret2
    exact ⟨by rw [hres.out]; rfl, (unhide H0).1⟩
  | true =>
    have hres0 : Hid (addA note ⟨kn, ksc⟩ = if 65536 < note.size then .tuple #[.string ⟨#[]⟩, .int .i64 121] else match readV note with
        | none => .tuple #[.string ⟨#[]⟩, .int .i64 200]
        | some (t, S) => if amongV S (keySig t ⟨kn, ksc⟩) = true then .tuple #[.string note, .int .i64 0] else if S.length = 16 then .tuple #[.string ⟨#[]⟩, .int .i64 83] else writA t (S ++ [keySig t ⟨kn, ksc⟩])) := by unfold addA; rw [Hid, if_neg (by rw [hno]; decide)]
    rw [hno] at HNA
    go_enter Tryd.func29, Tryd.ntmps29
    go_wp2_with fail
    refine (unhide HNA _).mono ?_
    rintro e w1 ⟨rfl, hw1⟩
    have HW1 := hide hw1; clear hw1
    go_wp2_with fail
    rw [← unhide HW1]
    refine (unhide HRD).mono ?_
    rintro e w2 ⟨hR, hb2⟩
    have hb2' := (unhide H0).1.trans (hb2.mono (unhide H0).1.size)
    have hK2 := (unhide H0).2.below hb2 (unhide H0).2.lt
    have k0 := hK2.cell 0; have k1 := hK2.cell 1
    simp only [List.getElem?_toArray, List.getElem?_cons_zero, List.getElem?_cons_succ] at k0 k1
    have H2 := hide hb2'; clear hb2 hb2' hK2 HRD H0 HNA HW1
    rcases hR with ⟨h6, rfl⟩ | ⟨h6, hrv, rfl⟩ | ⟨h6, t, S, vs, hrv, rfl, hO⟩
    · have hres : Hid (addA note ⟨kn, ksc⟩ = .tuple #[.string ⟨#[]⟩, .int .i64 121]) := by rw [Hid, hres0.out, if_pos h6]
      clear hres0 h6
      go_wp2_with fail
      go_ret2
      exact ⟨by rw [hres.out]; rfl, unhide H2⟩
    · have hres : Hid (addA note ⟨kn, ksc⟩ = .tuple #[.string ⟨#[]⟩, .int .i64 200]) := by rw [Hid, hres0.out, if_neg (by omega), hrv]
      clear hres0 hrv
      go_wp2_with fail
      go_ret2
      exact ⟨by rw [hres.out]; rfl, unhide H2⟩
    · have hres1 : Hid (addA note ⟨kn, ksc⟩ = if amongV S (keySig t ⟨kn, ksc⟩) = true then .tuple #[.string note, .int .i64 0] else if S.length = 16 then .tuple #[.string ⟨#[]⟩, .int .i64 83] else writA t (S ++ [keySig t ⟨kn, ksc⟩])) := by rw [Hid, hres0.out, if_neg (by omega), hrv]
      obtain ⟨hsok, hS1, hS16, hgt, htz⟩ := readV_ok hrv
      obtain ⟨As, cs, rfl⟩ := hO.slice
      have hsg := sign_any2 kn ksc t w2 (by omega) (by omega) (by omega) ((unhide HT).next (unhide H2))
      have hxe : keySig t ⟨kn, ksc⟩ = sigOf kn ksc t := rfl
      have hxo : SigOk (keySig t ⟨kn, ksc⟩) := keySig_ok hno
      have hsl := sigsL_ok (S ++ [keySig t ⟨kn, ksc⟩]) (fun x hx => by
        rcases List.mem_append.1 hx with h | h
        · exact hsok x h
        · simp at h; rw [h]; exact hxo)
      have hall : ∀ x ∈ S ++ [keySig t ⟨kn, ksc⟩], x.id.size ≤ 1099511627776 ∧ x.mc.size ≤ 1099511627776 := fun x hx => by
        have h : SigOk x := by
          rcases List.mem_append.1 hx with h | h
          · exact hsok x h
          · simp at h; rw [h]; exact hxo
        unfold SigOk at h; omega
      rw [← hxe] at hsg
      generalize keySig t ⟨kn, ksc⟩ = X at *
      obtain ⟨xn, xi, xm⟩ := X
      unfold sigV at hsg
      rw [List.length_append] at hsl
      have HSG := hide hsg; have HO := hide hO; have HSL := hide (And.intro hsl hall)
      clear hsg hxe hxo hsok hrv hO hsl hgt hres0 hno hall
      go_wp2_with fail
      refine (unhide HSG).mono ?_
      rintro e w3 ⟨rfl, hb3⟩
      have hb4 : Below w2.heap.size w2 (w3.alloc (.cells #[.string xn, .string xi, .string xm] 71)) := hb3.alloc hb3.size _
      have hO4 := (unhide HO).below hb4
      have hX4 : Blk (w3.alloc (.cells #[.string xn, .string xi, .string xm] 71)) w3.heap.size 71 #[.string xn, .string xi, .string xm] := Blk.new _ _ _
      have hw4 := (unhide H2).trans (hb4.mono (unhide H2).size)
      have ham := among_any (.slice As S.length cs) S ⟨xn, xi, xm⟩ _ _ (by omega) hO4
      unfold sigV at ham
      have hg9 : w.heap.size ≤ w3.heap.size := Nat.le_trans (unhide H2).size hb3.size
      have H4 := hide (And.intro hO4 (And.intro hX4 hw4)); have HAM := hide ham
      clear hb3 hb4 hO4 hX4 hw4 ham HSG HO k0 k1
      go_wp2_with fail
      generalize w3.heap.size = g9 at *
      generalize (w3.alloc (.cells #[.string xn, .string xi, .string xm] 71)) = w4 at *
      refine (unhide HAM).mono ?_
      rintro e w5 ⟨rfl, hb5⟩
      have hO5 := (unhide H4).1.below hb5
      have hX5 := (unhide H4).2.1.below hb5 (unhide H4).2.1.lt
      have hw5 := (unhide H4).2.2.trans (hb5.mono (unhide H4).2.2.size)
      have k0 := hX5.cell 0; have k1 := hX5.cell 1; have k2 := hX5.cell 2
      simp only [List.getElem?_toArray, List.getElem?_cons_zero, List.getElem?_cons_succ] at k0 k1 k2
      have hz5 := hw5.size
      have hb1 : w.heap.size + 1 ≤ w5.heap.size := by have := hX5.lt; omega
      have H5 := hide (And.intro hO5 hw5)
      clear hO5 hX5 hw5 hb5 HAM H4
      cases ham : amongV S ⟨xn, xi, xm⟩ with
      | true =>
        have hres : Hid (addA note ⟨kn, ksc⟩ = .tuple #[.string note, .int .i64 0]) := by rw [Hid, hres1.out, if_pos ham]
        clear hres1 ham
        go_wp2_with fail
        go_ret2
        exact ⟨by rw [hres.out]; rfl, (unhide H5).2⟩
      | false =>
        by_cases h16 : S.length = 16
        · have hres : Hid (addA note ⟨kn, ksc⟩ = .tuple #[.string ⟨#[]⟩, .int .i64 83]) := by rw [Hid, hres1.out, if_neg (by rw [ham]; decide), if_pos h16]
          have h16' : ((S.length : Int) == 16) = true := by rw [h16]; rfl
          clear hres1 ham h16
          go_wp2_with fail
          go_ret2
          exact ⟨by rw [hres.out]; rfl, (unhide H5).2⟩
        · have hres : Hid (addA note ⟨kn, ksc⟩ = writA t (S ++ [⟨xn, xi, xm⟩])) := by rw [Hid, hres1.out, if_neg (by rw [ham]; decide), if_neg h16]
          have h16' : ((S.length : Int) == 16) = false := by rw [beq_eq_false_iff_ne]; omega
          clear hres1 ham
          go_wp2_with (at_builtin; go_must (refine wpList_appG1_at w5 w5.heap.size rfl rfl _ _ rfl (y := ⟨xn, xi, xm⟩) (unhide H5).1 rfl rfl (by omega) (by rw [World.size_alloc]; omega) ?_); intro v8 w8 hO8 hg8 hat8; have hw8 := ((unhide H5).2.alloc (unhide H5).2.size (.cells #[.string xn, .string xi, .string xm] 71)).grown hg8 (by simp; omega) (fun q hq => by have h9 := ((unhide H5).1.lt _ hq).1; rw [World.size_alloc] at h9; omega); have hwr := written_any t v8 (S ++ [⟨xn, xi, xm⟩]) _ w8 (by omega) (by have h9 := (unhide HSL).1; simp at h9; omega) (unhide HSL).2 (by simp; omega) hO8; have HW8 := hide hw8; have HWR := hide hwr; clear hO8 hg8 hat8 hw8 hwr)
          obtain ⟨x, z, hf, -⟩ := writA_form t (S ++ [⟨xn, xi, xm⟩])
          rw [hf] at HWR
          have hres2 : Hid (addA note ⟨kn, ksc⟩ = .tuple #[.string x, .int .i64 (z : Nat)]) := by rw [Hid, hres.out, hf]
          clear hres hf HSL
          refine (unhide HWR).mono ?_
          rintro e w9 ⟨rfl, hb9⟩
          have hw9 := (unhide HW8).trans (hb9.mono (unhide HW8).size)
          have H9 := hide hw9; clear hb9 hw9 HWR HW8
          go_wp2_with fail
          go_ret2
          exact ⟨by rw [hres2.out]; rfl, unhide H9⟩
set_option maxRecDepth 100000 in
set_option maxHeartbeats 4000000 in
theorem radd_any (note : ByteArray) (k : KeyR) (w : World) (hs : note.size ≤ 1099511627776) (hk : k.nm.size ≤ 1099511627776 ∧ k.sc.size ≤ 1099511627776) (hT : RTab w) :
    Calls Tryd.prog 30 #[.string note, keyV k] w fun e w' => e = .returned (addA note k) ∧ Below w.heap.size w w' := by
  obtain ⟨kn, ksc⟩ := k
  simp only at hk
  unfold keyV
  have hb0 : Below w.heap.size w (w.alloc (.cells #[.string kn, .string ksc] 27)) := (Below.refl _ _).alloc (Nat.le_refl _) _
  have hK0 : Blk (w.alloc (.cells #[.string kn, .string ksc] 27)) w.heap.size 27 #[.string kn, .string ksc] := Blk.new _ _ _
  have hT0 := hT.alloc (.cells #[.string kn, .string ksc] 27)
  have hid := rID_any kn ksc _ (by omega) (by omega) hT0.1 hT0.2
  have HID := hide hid; have HT := hide hT; have H0 := hide (And.intro hb0 hK0); clear hid hT hb0 hK0 hT0
  cases hno : nameOk kn with
  | false =>
    have hres : Hid (addA note ⟨kn, ksc⟩ = .tuple #[.string ⟨#[]⟩, .int .i64 203]) := by unfold addA; rw [Hid, if_pos hno]
    have hiv : idV kn ksc = .tuple #[.string ⟨#[]⟩, .int .i64 203] := by unfold idV; rw [if_neg (by rw [hno]; decide)]
    rw [hiv] at HID
    clear hno hiv
    go_enter Tryd.func30, Tryd.ntmps30
    go_wp2_with fail
    refine (unhide HID).mono ?_
    rintro e w1 ⟨rfl, hb1⟩
    have hw1 := (unhide H0).1.trans (hb1.mono (unhide H0).1.size)
    have H1 := hide hw1; clear hb1 hw1
    go_wp2_with fail
    go_ret2
    exact ⟨by rw [hres.out]; rfl, unhide H1⟩
  | true =>
    have hres0 : Hid (addA note ⟨kn, ksc⟩ = if 65536 < note.size then .tuple #[.string ⟨#[]⟩, .int .i64 121] else match readV note with
        | none => .tuple #[.string ⟨#[]⟩, .int .i64 200]
        | some (t, S) => if amongV S (keySig t ⟨kn, ksc⟩) = true then .tuple #[.string note, .int .i64 0] else if S.length = 16 then .tuple #[.string ⟨#[]⟩, .int .i64 83] else writA t (S ++ [keySig t ⟨kn, ksc⟩])) := by unfold addA; rw [Hid, if_neg (by rw [hno]; decide)]
    have hiv : idV kn ksc = .tuple #[.string ⟨(keyIDL kn.data.toList ksc.data.toList).toArray⟩, .int .i64 0] := by unfold idV; rw [if_pos hno]
    rw [hiv] at HID
    clear hiv
    go_enter Tryd.func30, Tryd.ntmps30
    go_wp2_with fail
    refine (unhide HID).mono ?_
    rintro e w1 ⟨rfl, hb1⟩
    have hw1 := (unhide H0).1.trans (hb1.mono (unhide H0).1.size)
    have hK1 := (unhide H0).2.below hb1 (unhide H0).2.lt
    have hrd := rread_any note w1 hs
    have H1 := hide (And.intro hw1 hK1); have HRD := hide hrd; clear hb1 hw1 hK1 hrd HID H0
    go_wp2_with fail
    refine (unhide HRD).mono ?_
    rintro e w2 ⟨hR, hb2⟩
    have hb2' := (unhide H1).1.trans (hb2.mono (unhide H1).1.size)
    have hK2 := (unhide H1).2.below hb2 (unhide H1).2.lt
    have k0 := hK2.cell 0; have k1 := hK2.cell 1
    simp only [List.getElem?_toArray, List.getElem?_cons_zero, List.getElem?_cons_succ] at k0 k1
    have hz2 := hb2.size; have hbase := (unhide H1).1.size
    have H2 := hide hb2'; clear hb2 hb2' hK2 HRD H1
    rcases hR with ⟨h6, rfl⟩ | ⟨h6, hrv, rfl⟩ | ⟨h6, t, S, vs, hrv, rfl, hO⟩
    · have hres : Hid (addA note ⟨kn, ksc⟩ = .tuple #[.string ⟨#[]⟩, .int .i64 121]) := by rw [Hid, hres0.out, if_pos h6]
      clear hres0 h6
      go_wp2_with fail
      go_ret2
      exact ⟨by rw [hres.out]; rfl, unhide H2⟩
    · have hres : Hid (addA note ⟨kn, ksc⟩ = .tuple #[.string ⟨#[]⟩, .int .i64 200]) := by rw [Hid, hres0.out, if_neg (by omega), hrv]
      clear hres0 hrv
      go_wp2_with fail
      go_ret2
      exact ⟨by rw [hres.out]; rfl, unhide H2⟩
    · have hres1 : Hid (addA note ⟨kn, ksc⟩ = if amongV S (keySig t ⟨kn, ksc⟩) = true then .tuple #[.string note, .int .i64 0] else if S.length = 16 then .tuple #[.string ⟨#[]⟩, .int .i64 83] else writA t (S ++ [keySig t ⟨kn, ksc⟩])) := by rw [Hid, hres0.out, if_neg (by omega), hrv]
      obtain ⟨hsok, hS1, hS16, hgt, htz⟩ := readV_ok hrv
      obtain ⟨As, cs, rfl⟩ := hO.slice
      have hsg := rsign_any kn ksc t w2 (by omega) (by omega) (by omega) ((unhide HT).next (unhide H2))
      have hxe : keySig t ⟨kn, ksc⟩ = sigOf kn ksc t := rfl
      have hxo : SigOk (keySig t ⟨kn, ksc⟩) := keySig_ok hno
      have hsl := sigsL_ok (S ++ [keySig t ⟨kn, ksc⟩]) (fun x hx => by
        rcases List.mem_append.1 hx with h | h
        · exact hsok x h
        · simp at h; rw [h]; exact hxo)
      have hall : ∀ x ∈ S ++ [keySig t ⟨kn, ksc⟩], x.id.size ≤ 1099511627776 ∧ x.mc.size ≤ 1099511627776 := fun x hx => by
        have h : SigOk x := by
          rcases List.mem_append.1 hx with h | h
          · exact hsok x h
          · simp at h; rw [h]; exact hxo
        unfold SigOk at h; omega
      rw [← hxe] at hsg
      generalize keySig t ⟨kn, ksc⟩ = X at *
      obtain ⟨xn, xi, xm⟩ := X
      unfold sigV at hsg
      rw [List.length_append] at hsl
      have HSG := hide hsg; have HO := hide hO; have HSL := hide (And.intro hsl hall)
      clear hsg hxe hxo hsok hrv hO hsl hgt hres0 hno hall
      go_wp2_with fail
      refine (unhide HSG).mono ?_
      rintro e w3 ⟨rfl, hb3⟩
      have hb4 : Below w2.heap.size w2 (w3.alloc (.cells #[.string xn, .string xi, .string xm] 71)) := hb3.alloc hb3.size _
      have hO4 := (unhide HO).below hb4
      have hX4 : Blk (w3.alloc (.cells #[.string xn, .string xi, .string xm] 71)) w3.heap.size 71 #[.string xn, .string xi, .string xm] := Blk.new _ _ _
      have hw4 := (unhide H2).trans (hb4.mono (unhide H2).size)
      have ham := ramong_any (.slice As S.length cs) S ⟨xn, xi, xm⟩ _ _ (by omega) hO4
      unfold sigV at ham
      have hg9 : w1.heap.size ≤ w3.heap.size := Nat.le_trans hz2 hb3.size
      have H4 := hide (And.intro hO4 (And.intro hX4 hw4)); have HAM := hide ham
      clear hb3 hb4 hO4 hX4 hw4 ham HSG HO k0 k1
      go_wp2_with fail
      generalize w3.heap.size = g9 at *
      generalize (w3.alloc (.cells #[.string xn, .string xi, .string xm] 71)) = w4 at *
      refine (unhide HAM).mono ?_
      rintro e w5 ⟨rfl, hb5⟩
      have hO5 := (unhide H4).1.below hb5
      have hX5 := (unhide H4).2.1.below hb5 (unhide H4).2.1.lt
      have hw5 := (unhide H4).2.2.trans (hb5.mono (unhide H4).2.2.size)
      have k0 := hX5.cell 0; have k1 := hX5.cell 1; have k2 := hX5.cell 2
      simp only [List.getElem?_toArray, List.getElem?_cons_zero, List.getElem?_cons_succ] at k0 k1 k2
      have hz5 := hw5.size
      have hb1 : w1.heap.size + 1 ≤ w5.heap.size := by have := hX5.lt; omega
      have H5 := hide (And.intro hO5 hw5)
      clear hO5 hX5 hw5 hb5 HAM H4
      cases ham : amongV S ⟨xn, xi, xm⟩ with
      | true =>
        have hres : Hid (addA note ⟨kn, ksc⟩ = .tuple #[.string note, .int .i64 0]) := by rw [Hid, hres1.out, if_pos ham]
        clear hres1 ham
        go_wp2_with fail
        go_ret2
        exact ⟨by rw [hres.out]; rfl, (unhide H5).2⟩
      | false =>
        by_cases h16 : S.length = 16
        · have hres : Hid (addA note ⟨kn, ksc⟩ = .tuple #[.string ⟨#[]⟩, .int .i64 83]) := by rw [Hid, hres1.out, if_neg (by rw [ham]; decide), if_pos h16]
          have h16' : ((S.length : Int) == 16) = true := by rw [h16]; rfl
          clear hres1 ham h16
          go_wp2_with fail
          go_ret2
          exact ⟨by rw [hres.out]; rfl, (unhide H5).2⟩
        · have hres : Hid (addA note ⟨kn, ksc⟩ = writA t (S ++ [⟨xn, xi, xm⟩])) := by rw [Hid, hres1.out, if_neg (by rw [ham]; decide), if_neg h16]
          have h16' : ((S.length : Int) == 16) = false := by rw [beq_eq_false_iff_ne]; omega
          clear hres1 ham
          go_wp2_with (at_builtin; go_must (refine wpList_appG1_at w5 w5.heap.size rfl rfl _ _ rfl (y := ⟨xn, xi, xm⟩) (unhide H5).1 rfl rfl (by omega) (by omega) ?_); intro v8 w8 hO8 hg8 hat8; have hw8 := ((unhide H5).2.alloc (unhide H5).2.size (.cells #[.string xn, .string xi, .string xm] 71)).grown hg8 (by simp; omega) (fun q hq => by have h9 := ((unhide H5).1.lt _ hq).1; omega); have hwr := rwritten_any t v8 (S ++ [⟨xn, xi, xm⟩]) _ w8 (by omega) (by have h9 := (unhide HSL).1; simp at h9; omega) (unhide HSL).2 (by simp; omega) hO8; have HW8 := hide hw8; have HWR := hide hwr; clear hO8 hg8 hat8 hw8 hwr)
          refine (unhide HWR).mono ?_
          rintro e w9 ⟨rfl, hb9⟩
          have hw9 := (unhide HW8).trans (hb9.mono (unhide HW8).size)
          have H9 := hide hw9; clear hb9 hw9 HWR HW8
          have hwz : (writB t (S ++ [⟨xn, xi, xm⟩])).size = (writL t (S ++ [⟨xn, xi, xm⟩])).length := by
            show (writL t (S ++ [⟨xn, xi, xm⟩])).toArray.size = _
            rw [List.size_toArray]
          by_cases h65 : 65536 < (writL t (S ++ [⟨xn, xi, xm⟩])).length
          · have hres2 : Hid (addA note ⟨kn, ksc⟩ = .tuple #[.string ⟨#[]⟩, .int .i64 121]) := by rw [Hid, hres.out]; unfold writA; rw [if_pos h65]
            have h65' : (65536 : Int) < ((writB t (S ++ [⟨xn, xi, xm⟩])).size : Int) := by omega
            clear hres hwz h65
            generalize writB t (S ++ [⟨xn, xi, xm⟩]) = B at *
            go_wp2_with fail
            go_ret2
            exact ⟨by rw [hres2.out]; rfl, unhide H9⟩
          · have hres2 : Hid (addA note ⟨kn, ksc⟩ = .tuple #[.string (writB t (S ++ [⟨xn, xi, xm⟩])), .int .i64 0]) := by rw [Hid, hres.out]; unfold writA; rw [if_neg h65]
            have h65' : ¬ (65536 : Int) < ((writB t (S ++ [⟨xn, xi, xm⟩])).size : Int) := by omega
            clear hres hwz h65
            generalize writB t (S ++ [⟨xn, xi, xm⟩]) = B at *
            go_wp2_with fail
            go_ret2
            exact ⟨by rw [hres2.out]; rfl, unhide H9⟩
end Go.Proofs.YtfhaoamlagnpjaaDoor

set_option linter.unusedVariables false
set_option linter.unusedSimpArgs false
namespace Go.Proofs.YtfhaoamlagnpjaaDoor
open Go.RowKit Go.Lib
theorem numl_any (z : Nat) (w : World) (hz : z < 1000) : Calls Tryd.prog 13 #[.int .i64 (z : Int)] w fun e w' => e = .returned (.int .i64 (z : Int)) ∧ w = w' := by
  go_enter Tryd.func13, Tryd.ntmps13
  go_wp2
  go_ret
  exact ⟨rfl, rfl⟩
set_option maxRecDepth 100000 in
set_option maxHeartbeats 1000000 in
/-- Two lists that read alike are alike. -/
theorem texts_eq (a b : Value) (es : List ByteArray) (w : World) (hn : es.length ≤ 1099511627776) (ha : StrsAt w a es) (hb : StrsAt w b es) :
    Calls Tryd.prog 18 #[a, b] w fun e w' => e = .returned (.bool true) ∧ ∃ nd, w' = w.drewN nd := by
  obtain ⟨A, c, rfl, ha⟩ := ha
  obtain ⟨B, d, rfl, hb⟩ := hb
  have HA := hide ha; have HB := hide hb; clear ha hb
  go_enter Tryd.func18, Tryd.ntmps18
  go_wp2_with fail
  go_loopw [5] (fun i wr => ∃ k : Nat, i = .int .i64 k ∧ k ≤ es.length ∧ ∃ nd, Hid (wr = w.drewN nd)) (fun i _ => es.length - (RowKit.intOf i).toNat)
  case atStart => exact ⟨0, rfl, by omega, 0, Lib.hid rfl⟩
  case round =>
    obtain ⟨k, rfl, hk, nd, hw⟩ := hrel
    have hw' := hw.out
    subst hw'
    rcases Nat.lt_or_ge k es.length with hlt | hge
    · obtain ⟨p, rfl, hp⟩ := unhide HA k hlt
      obtain ⟨q, rfl, hq⟩ := unhide HB k hlt
      generalize es[k] = x at hp hq
      have hp' : (w.drewN nd).cell? (p.add k) = some (.string x) := hp
      have hq' : (w.drewN nd).cell? (q.add k) = some (.string x) := hq
      go_wp2_with fail
      go_quiet (fail)
      go_wp2_with fail
      refine ⟨⟨k + 1, by go_num, by omega, nd + nq, Lib.hid rfl⟩, by simp [RowKit.intOf]; omega⟩
    · go_wp2_with fail
      go_ret
      exact ⟨rfl, nd, rfl⟩
end Go.Proofs.YtfhaoamlagnpjaaDoor

set_option linter.unusedVariables false
set_option linter.unusedSimpArgs false
namespace Go.Proofs.YtfhaoamlagnpjaaDoor
open Go.Lib
theorem laidMet_plain {P : Program} {laid : List (String × DataW Unit)} {w : World} (hh : (laid.filter fun x => x.2.handleName?.isSome) = []) (h : laidMetH P laid w) : laidMet P laid w := by
  unfold laidMetH at h
  rw [hh] at h
  exact h
theorem tab_of_vars {P : Program} {w : World} {name : String} {k : IntKind} {zs : List Int} {g : Nat} {t e : TypeId} {n : Nat}
    (hg : P.globalNamed name = some g) (hty : (P.globals[g]?).map (·.type) = some t) (ht : P.underlying t = some (.array n e)) (he : P.underlying e = some (.int k)) (hce : P.cellsOf e = 1) (hct : P.cellsOf t = n) :
    ∀ (laid : List (String × DataW Unit)) (ps : List MemPlace), DataW.LaidVars P w laid ps → (name, (tabData k zs : DataW Unit)) ∈ laid → TabIs P w name k zs
  | [], _, _, hm => by simp at hm
  | (n', d') :: r, ps, h, hm => by
    obtain ⟨g', t', cs, fuel, p, q, hg', ht', hvar, hd, hr, _⟩ := h
    rcases List.mem_cons.1 hm with h1 | h1
    · obtain ⟨rfl, rfl⟩ := Prod.mk.inj h1
      obtain rfl := Option.some.inj (hg.symm.trans hg')
      obtain rfl := Option.some.inj (hty.symm.trans ht')
      unfold TabIs
      rw [hvar, ← cells_of_tab ht he hce hct hd]
    · exact tab_of_vars hg hty ht he hce hct r q hr h1
theorem tab_of_met {P : Program} {w : World} {name : String} {k : IntKind} {zs : List Int} {g : Nat} {t e : TypeId} {n : Nat} {laid : List (String × DataW Unit)}
    (hg : P.globalNamed name = some g) (hty : (P.globals[g]?).map (·.type) = some t) (ht : P.underlying t = some (.array n e)) (he : P.underlying e = some (.int k)) (hce : P.cellsOf e = 1) (hct : P.cellsOf t = n)
    (h : laidMet P laid w) (hm : (name, (tabData k zs : DataW Unit)) ∈ laid) : TabIs P w name k zs := by
  obtain ⟨ps, h, _⟩ := h
  exact tab_of_vars hg hty ht he hce hct laid ps h hm
end Go.Proofs.YtfhaoamlagnpjaaDoor

set_option linter.unusedVariables false
set_option linter.unusedSimpArgs false
namespace Go.Proofs.YtfhaoamlagnpjaaDoor
open Go.RowKit Go.Lib
theorem tabOk_of {w : World} (h : TabIs Tryd.prog w "annals/sha.table" .u32 shaK) : TabOk w := fun i hi =>
  h.cell (g := 5) (by kernel_rfl) i hi
theorem beginOk_of {w : World} (h : TabIs Tryd.prog w "annals/sha.begin" .u32 shaInit) : BeginOk w := fun i hi =>
  h.cell (g := 1) (by kernel_rfl) i hi
theorem tabOkR_of {w : World} (h : TabIs Tryd.prog w "annals/annalsref2.table" .u32 shaK) : TabOkR w := fun i hi =>
  h.cell (g := 2) (by kernel_rfl) i hi
theorem firstOk_of {w : World} (h : TabIs Tryd.prog w "annals/annalsref2.first" .u32 shaInit) : FirstOk w := fun i hi =>
  h.cell (g := 0) (by kernel_rfl) i hi
/-- The four tables of SHA on both sides. -/
theorem sha_laid {laid : List (String × DataW Unit)} {w : World} (hh : (laid.filter fun x => x.2.handleName?.isSome) = []) (hL : laidMetH Tryd.prog laid w)
    (m1 : ("annals/sha.begin", (tabData .u32 shaInit : DataW Unit)) ∈ laid) (m2 : ("annals/sha.table", (tabData .u32 shaK : DataW Unit)) ∈ laid)
    (m3 : ("annals/annalsref2.first", (tabData .u32 shaInit : DataW Unit)) ∈ laid) (m4 : ("annals/annalsref2.table", (tabData .u32 shaK : DataW Unit)) ∈ laid) :
    TabOk w ∧ BeginOk w ∧ TabOkR w ∧ FirstOk w := by
  have h := laidMet_plain hh hL
  refine ⟨tabOk_of (tab_of_met (g := 5) (n := 64) (t := 157) (e := 142) (by kernel_rfl) (by kernel_rfl) Tryd.underlying157 Tryd.underlying142 (by kernel_rfl) (by kernel_rfl) h m2),
    beginOk_of (tab_of_met (g := 1) (n := 8) (t := 152) (e := 142) (by kernel_rfl) (by kernel_rfl) (by kernel_rfl) Tryd.underlying142 (by kernel_rfl) (by kernel_rfl) h m1),
    tabOkR_of (tab_of_met (g := 2) (n := 64) (t := 157) (e := 142) (by kernel_rfl) (by kernel_rfl) Tryd.underlying157 Tryd.underlying142 (by kernel_rfl) (by kernel_rfl) h m4),
    firstOk_of (tab_of_met (g := 0) (n := 8) (t := 143) (e := 142) (by kernel_rfl) (by kernel_rfl) Tryd.underlying143 Tryd.underlying142 (by kernel_rfl) (by kernel_rfl) h m3)⟩
end Go.Proofs.YtfhaoamlagnpjaaDoor

set_option linter.unusedVariables false
namespace Go.Proofs.YtfhaoamlagnpjaaDoor
open Go.RowKit Go.Lib Go.ChangeMaps Go.Joins
theorem bulk_str {H : Type} (l : List UInt8) : Rows.uptoBulk (DataW.lit (.string l) : DataW H) = l.length + 1 := rfl
set_option maxRecDepth 100000 in
theorem open_key {H : Type} {enc : TypeId × Value → H} {w : World} {base : Nat} {sp : Nat → Bool} {held : Bool} {r : Reach} {b0 : Nat} {v : Value} {d : DataW H} {p : List MemPlace}
    (hv : Value.okWide Tryd.prog w r b0 27 v) (h : DataW.Trod enc Tryd.prog w base sp held 27 v d p) :
    ∃ n s : ByteArray, v = .agg #[.string n, .string s] ∧ Rows.uptoBulk d = n.size + 1 + (s.size + 1) + 1 ∧ p = [] := by
  obtain ⟨v0, v1, y0, y1, k, rfl, rfl, rfl, h0, h1⟩ := open_agg2 Tryd.underlying27 (by kernel_rfl) (by kernel_rfl) hv h
  obtain ⟨s0, e0, rfl, -⟩ := DataW.trod_string (ht := Tryd.underlying9) h0
  obtain ⟨s1, e1, rfl, -⟩ := DataW.trod_string (ht := Tryd.underlying9) h1
  simp at e0 e1
  subst e0 e1
  refine ⟨s0, s1, rfl, ?_, rfl⟩
  simp [Rows.uptoBulk, Rows.uptoBulkAll]
end Go.Proofs.YtfhaoamlagnpjaaDoor

set_option linter.unusedVariables false
namespace Go.Proofs.YtfhaoamlagnpjaaDoor
open Go.RowKit Go.Lib Go.Joins
theorem bulk_strs {H : Type} (S : Nat → ByteArray) (l : List Nat) : Rows.uptoBulkAll (l.map fun i => (DataW.lit (.string (S i).data.toList) : DataW H)) = (linesL (l.map S)).length := by
  induction l with
  | nil => rfl
  | cons i r ih =>
    simp only [List.map_cons, Rows.uptoBulkAll, Rows.uptoBulk, ih]
    simp [linesL]
    omega
set_option maxRecDepth 100000 in
theorem open_cp {H : Type} {enc : TypeId × Value → H} {w : World} {base : Nat} {sp : Nat → Bool} {held : Bool} {r : Reach} {b0 : Nat} {v : Value} {d : DataW H} {p : List MemPlace}
    (hv : Value.okWide Tryd.prog w r b0 34 v) (h : DataW.Trod enc Tryd.prog w base sp held 34 v d p) :
    ∃ (o : ByteArray) (n : Int) (rt : ByteArray) (x : Value) (es : List ByteArray), v = .agg #[.string o, .int .i64 n, .string rt, x] ∧ StrsAt w x es ∧ o.size + rt.size + (linesL es).length ≤ Rows.uptoBulk d := by
  obtain ⟨v0, v1, v2, v3, y0, y1, y2, y3, k, rfl, rfl, rfl, h0, h1, h2, h3⟩ := open_agg4 Tryd.underlying34 (by kernel_rfl) (by kernel_rfl) hv h
  obtain ⟨s0, e0, rfl, -⟩ := DataW.trod_string (ht := Tryd.underlying9) h0
  obtain ⟨s2, e2, rfl, -⟩ := DataW.trod_string (ht := Tryd.underlying9) h2
  obtain ⟨z, e1, rfl, -⟩ := DataW.trod_int Tryd.underlying3 h1
  simp at e0 e1 e2
  subst e0 e1 e2
  rcases Go.Deep.open_strs Tryd.underlying32 Tryd.underlying9 (by kernel_rfl) h3 with ⟨e3, rfl⟩ | ⟨a, len, cap, m, S, e3, _, hlc, _, hm, rfl, hc⟩
  · simp at e3
    subst e3
    refine ⟨s0, z, s2, _, [], rfl, ⟨none, 0, rfl, fun j hj => by simp at hj⟩, ?_⟩
    have z0 : s0.data.size = s0.size := rfl
    have z2 : s2.data.size = s2.size := rfl
    simp [Rows.uptoBulk, Rows.uptoBulkAll, linesL]
    omega
  · simp at e3
    subst e3
    have hlm : len ≤ m := by rw [hm]; split <;> omega
    refine ⟨s0, z, s2, _, (List.range len).map S, rfl, ⟨some a, cap, by simp, fun j hj => ⟨a, rfl, ?_⟩⟩, ?_⟩
    · simp at hj
      rw [(hc j (by omega)).1]
      simp
    · have z0 : s0.data.size = s0.size := rfl
      have z2 : s2.data.size = s2.size := rfl
      simp only [Rows.uptoBulk, Rows.uptoBulkAll, bulk_strs, Array.length_toList]
      omega
theorem utf8_extra : Go.Proofs.U8Extra Tryd.prog Tryd.lays260_ren := {
  n3 := by kernel_rfl
  n4 := by kernel_rfl
  y3 := by kernel_rfl
  y4 := by kernel_rfl
  c5 := by kernel_rfl
  c119 := by kernel_rfl
  c138 := by kernel_rfl }
theorem utf8_of {laid : List (String × DataW Unit)} {w : World} (h : laidMet Tryd.prog laid w) (m1 : ("unicode/utf8.first", Go.Lib.firstData) ∈ laid) (m2 : ("unicode/utf8.acceptRanges", Go.Lib.acceptData) ∈ laid) :
    Lib.Utf8Tabs 3 4 w := by
  obtain ⟨ps, h, _⟩ := h
  exact Go.Proofs.utf8Tabs_of_readsT (Go.Proofs.U8Types.of260 Tryd.lays260) utf8_extra (LaidVars_reads h _ _ m1) (LaidVars_reads h _ _ m2)
end Go.Proofs.YtfhaoamlagnpjaaDoor

set_option linter.unusedVariables false
namespace Go.Proofs.YtfhaoamlagnpjaaDoor
open Go.RowKit Go.Lib
theorem max_is {w : World} (h : w.ShapedOpen Tryd.prog) : MaxOk w :=
  Go.Proofs.cell_of_shapedOpen_int (zero := #[.int .i64 0]) (t := 3) h (of_decide_eq_true (by kernel_rfl)) (by kernel_rfl) rfl (by kernel_rfl) (by kernel_rfl) Tryd.underlying3
end Go.Proofs.YtfhaoamlagnpjaaDoor

set_option linter.unusedVariables false
set_option linter.unusedSimpArgs false
namespace Go.Proofs.YtfhaoamlagnpjaaDoor
open Go.RowKit Go.Lib
set_option maxRecDepth 100000 in
set_option maxHeartbeats 1000000 in
theorem lawAdd_any (note : ByteArray) (k : KeyR) (w : World) (hs : note.size ≤ 1048576) (hk : k.nm.size ≤ 1048576 ∧ k.sc.size ≤ 1048576) (hP : PTab w) (hR : RTab w) (hU : Lib.Utf8Tabs 3 4 w) (hM : MaxOk w) :
    Calls Tryd.prog 9 #[.string note, keyV k] w fun e W' => e = .returned (.bool true) ∧ Below w.heap.size w W' := by
  obtain ⟨kn, ksc⟩ := k
  simp only at hk
  have hb0 : Below w.heap.size w (w.alloc (.cells #[.string kn, .string ksc] 27)) := (Below.refl _ _).alloc (Nat.le_refl _) _
  have hA := add_any note ⟨kn, ksc⟩ (w.alloc (.cells #[.string kn, .string ksc] 27)) (by omega) (by simp only; omega) (hP.next hb0) (Tabs.below hU hb0 (Tabs.lt3 hU) (Tabs.lt4 hU)) (hM.below hb0 hM.lt)
  have hK0 : Blk (w.alloc (.cells #[.string kn, .string ksc] 27)) w.heap.size 27 #[.string kn, .string ksc] := Blk.new _ _ _
  obtain ⟨x, z, hid, hz⟩ := addA_form note ⟨kn, ksc⟩
  rw [hid] at hA
  unfold keyV at hA ⊢
  have HT := hide hR; have HA := hide hA; have Hid1 := Lib.hid hid; have H0 := hide (And.intro hb0 hK0); clear hid hA hP hR hU hM hb0 hK0
  go_enter Tryd.func9, Tryd.ntmps9
  go_wp2_with fail
  refine (unhide HA).mono ?_
  rintro e w1 ⟨rfl, hb1⟩
  have hB1 := (unhide H0).2.below hb1 (unhide H0).2.lt
  have c0 := hB1.cell 0; have c1 := hB1.cell 1
  simp only [List.getElem?_toArray, List.getElem?_cons_zero, List.getElem?_cons_succ] at c0 c1
  have hbw1 := (unhide H0).1.trans (hb1.mono (unhide H0).1.size)
  have hR := radd_any note ⟨kn, ksc⟩ w1 (by omega) (by simp only; omega) ((unhide HT).next hbw1)
  rw [Hid1.out] at hR
  unfold keyV at hR
  have H1 := hide hbw1; have HR := hide hR; clear hbw1 hb1 hB1 hR HA H0
  go_wp2_with fail
  refine (unhide HR).mono ?_
  rintro e w2 ⟨rfl, hb2⟩
  have H2 := hide ((unhide H1).trans (hb2.mono (unhide H1).size)); clear hb2 HR
  have hss : (x.toList == x.toList) = true := beq_self_eq_true _
  go_wp2_with fail
  refine (numl_any z w2 hz).mono ?_
  rintro e w3 ⟨rfl, rfl⟩
  go_wp2_with fail
  go_ret
  exact ⟨rfl, unhide H2⟩
set_option maxRecDepth 100000 in
theorem noteAdd_walk {H : Type} {enc : TypeId × Value → H} (W : World) (base : Nat) (v0 : Value) (d0 : DataW H) (p0 : List MemPlace) (v1 : Value) (d1 : DataW H) (p1 : List MemPlace) (o0 : Value.okWide Tryd.prog W .any base 9 v0) (h0 : DataW.Trod enc Tryd.prog W 0 (fun _ => true) true 9 v0 d0 p0) (l0 : ∀ x ∈ p0, x.block < W.heap.size) (o1 : Value.okWide Tryd.prog W .any base 27 v1) (h1 : DataW.Trod enc Tryd.prog W 0 (fun _ => true) true 27 v1 d1 p1) (l1 : ∀ x ∈ p1, x.block < W.heap.size) (hz : (DataW.weightsEach Tryd.prog [9, 27] ([d0, d1] : List (DataW H))).all (· ≤ reachBytes) = true) (hk : Rows.uptoBulkAll ([d0, d1] : List (DataW H)) ≤ 1048576) (hL : laidMetH Tryd.prog Rows.noteAddUptoRow.laid W) (hsh : W.ShapedOpen Tryd.prog) :
    Calls Tryd.prog 9 #[v0, v1] W fun e W' => e = .returned (.bool true) ∧ Below W.heap.size W W' := by
  have hT := utf8_of (laidMet_plain (by kernel_rfl) hL) (.tail _ (.tail _ (.tail _ (.tail _ (.tail _ (.head _)))))) (.tail _ (.tail _ (.tail _ (.tail _ (.head _)))))
  obtain ⟨h1', h2', h3', h4'⟩ := sha_laid (laid := Rows.noteAddUptoRow.laid) (by kernel_rfl) hL (.tail _ (.tail _ (.head _))) (.tail _ (.tail _ (.tail _ (.head _)))) (.head _) (.tail _ (.head _))
  obtain ⟨s, rfl, rfl, -⟩ := Go.ChangeMaps.open_string Tryd.underlying9 o0 h0
  obtain ⟨n, s1, rfl, hb, rfl⟩ := open_key o1 h1
  simp only [Rows.uptoBulkAll, Rows.uptoBulk, Array.length_toList, hb] at hk
  have hsz : s.data.size = s.size := rfl
  exact lawAdd_any s ⟨n, s1⟩ W (by omega) (by simp only; omega) ⟨h1', h2'⟩ ⟨h3', h4'⟩ hT (max_is hsh)
end Go.Proofs.YtfhaoamlagnpjaaDoor

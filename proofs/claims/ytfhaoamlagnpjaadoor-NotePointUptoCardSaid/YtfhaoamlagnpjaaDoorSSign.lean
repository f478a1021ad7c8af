/-
  CONTRACT of note.Sign.
-/
import Derived.Test.YtfhaoamlagnpjaaDoorRows
import Derived.Test.YtfhaoamlagnpjaaDoorGBase
import Derived.Test.YtfhaoamlagnpjaaDoorGMacs
import Derived.Test.YtfhaoamlagnpjaaDoorGKs
set_option linter.unusedVariables false
set_option linter.unusedSimpArgs false
namespace Go.Proofs.YtfhaoamlagnpjaaDoor
open Go.RowKit Go.Lib
set_option maxRecDepth 100000 in
set_option maxHeartbeats 4000000 in
theorem signN_any (t : ByteArray) (v : Value) (ks : List KeyR) (w : World) (ht : t.size ≤ 1099511627776) (hks : ∀ k ∈ ks, k.nm.size ≤ 1099511627776 ∧ k.sc.size ≤ 1099511627776) (hn : ks.length ≤ 1099511627776) (hV : KeysAt w v ks) (hT : PTab w) (hU : Lib.Utf8Tabs 3 4 w) :
    Calls Tryd.prog 23 #[.string t, v] w fun e w' => e = .returned (signA t ks) ∧ Below w.heap.size w w' := by
  obtain ⟨A, c, rfl, -⟩ := id hV
  have hgo := goes_any t w ht hU
  have HGO := hide hgo; have HKS := hide hks; have HV := hide hV; have HT := hide hT; clear hgo hks hV hT hU
  cases hg : goesV t with
  | false =>
    have hr : Hid (signA t ks = .tuple #[.string ⟨#[]⟩, .int .i64 200]) := by unfold signA; rw [Hid, if_pos hg]
    rw [hg] at HGO
    go_enter Tryd.func23, Tryd.ntmps23
    go_wp2_with fail
    refine (unhide HGO).mono ?_
    rintro e w1 ⟨rfl, hb⟩
    go_wp2_with fail
    go_ret2
    exact ⟨by rw [hr.out]; rfl, hb⟩
  | true =>
    rw [hg] at HGO
    rcases Nat.eq_zero_or_pos ks.length with h0 | h0
    · have hr : Hid (signA t ks = .tuple #[.string ⟨#[]⟩, .int .i64 82]) := by unfold signA; rw [Hid, if_neg (by rw [hg]; decide), if_pos h0]
      have h00 : ((ks.length : Int) == 0) = true := by rw [h0]; rfl
      go_enter Tryd.func23, Tryd.ntmps23
      go_wp2_with fail
      refine (unhide HGO).mono ?_
      rintro e w1 ⟨rfl, hb⟩
      go_wp2_with fail
      go_ret2
      exact ⟨by rw [hr.out]; rfl, hb⟩
    · have h00 : ((ks.length : Int) == 0) = false := by rw [beq_eq_false_iff_ne]; omega
      rcases Nat.lt_or_ge 16 ks.length with h16 | h16
      · have hr : Hid (signA t ks = .tuple #[.string ⟨#[]⟩, .int .i64 83]) := by unfold signA; rw [Hid, if_neg (by rw [hg]; decide), if_neg (by omega), if_pos h16]
        have h16' : (16 : Int) < (ks.length : Int) := by omega
        go_enter Tryd.func23, Tryd.ntmps23
        go_wp2_with fail
        refine (unhide HGO).mono ?_
        rintro e w1 ⟨rfl, hb⟩
        go_wp2_with fail
        go_ret2
        exact ⟨by rw [hr.out]; rfl, hb⟩
      · have hr : Hid (signA t ks = signR t ks []) := by unfold signA; rw [Hid, if_neg (by rw [hg]; decide), if_neg (by omega), if_neg (by omega)]
        have h16' : ¬ (16 : Int) < (ks.length : Int) := by omega
        go_enter Tryd.func23, Tryd.ntmps23
        go_wp2_with fail
        refine (unhide HGO).mono ?_
        rintro e w1 ⟨rfl, hb⟩
        have H1 := hide hb; clear hb
        go_wp2_with fail
        go_loopw [6, 24] (fun v i wr => ∃ (k : Nat) (acc : List SigR), k ≤ ks.length ∧ i = .int .i64 k ∧ Hid (signR t (ks.drop k) acc = signR t ks [] ∧ acc.length ≤ k ∧ ∀ x ∈ acc, SigOk x) ∧ OwnG wr w.heap.size v acc ∧ Below w.heap.size w wr) (fun _ i _ => ks.length - (RowKit.intOf i).toNat)
        case atStart => exact ⟨0, [], by omega, rfl, Lib.hid ⟨rfl, Nat.le_refl _, fun x hx => by simp at hx⟩, OwnG.nil _ _, unhide H1⟩
        case round =>
          clear H1
          obtain ⟨k, acc, hk, rfl, hI, hO, hb⟩ := hrel
          have HX := hide (And.intro hI (And.intro hO hb)); clear hI hO hb
          rcases Nat.lt_or_ge k ks.length with hlt | hge
          · have hV := unhide HV
            obtain ⟨A', c', hvv, hc⟩ := hV
            injection hvv with e1 e2 e3
            subst e1 e3
            obtain ⟨a, rfl, c0, c1⟩ := hc k hlt
            have c0' := ((unhide HX).2.2.cell (World.block_lt_of_cell? w _ c0)).trans c0
            have c1' := ((unhide HX).2.2.cell (World.block_lt_of_cell? w _ c1)).trans c1
            have hk2 : (k : Int) < (ks.length : Int) := by omega
            have hkk := unhide HKS _ (List.getElem_mem hlt)
            have hst := Lib.hid (signR_step (t := t) (acc := acc) hlt)
            have hTr : PTab wr := (unhide HT).next (unhide HX).2.2
            generalize ks[k] = key at *
            obtain ⟨kn, ksc⟩ := key
            simp only at hkk c0' c1'
            have hadd : (a.add (k * 2)).add 1 = a.add (k * 2 + 1) := Addr.add_add a (k * 2) 1
            have c1'' : wr.cell? ⟨(a.add (k * 2)).block, (a.add (k * 2)).off + 1, none⟩ = some (.string ksc) := by
              have e : (⟨(a.add (k * 2)).block, (a.add (k * 2)).off + 1, none⟩ : Addr) = (a.add (k * 2)).add 1 := rfl
              rw [e, hadd]
              exact c1'
            clear hadd
            have hna := fun W => name_any kn W (by simp only [maxLen]; omega)
            have hsg := sign_any2 kn ksc t (wr.alloc (.cells #[.string kn, .string ksc] 27)) (by omega) (by omega) (by omega) (hTr.alloc _)
            have hxe : keySig t ⟨kn, ksc⟩ = sigOf kn ksc t := rfl
            have hxo : Hid (nameOk kn = true → SigOk (keySig t ⟨kn, ksc⟩)) := fun h => keySig_ok h
            rw [← hxe] at hsg
            generalize keySig t ⟨kn, ksc⟩ = X at *
            obtain ⟨xn, xi, xm⟩ := X
            unfold sigV at hsg
            have HNA := hide hna; have HSG := hide hsg; clear hna hsg c0 c1 hc hkk hxe
            cases hno : nameOk kn with
            | false =>
              have hres : Hid (signA t ks = .tuple #[.string ⟨#[]⟩, .int .i64 203]) := by rw [Hid, hr.out, ← (unhide HX).1.out.1, hst.out, if_pos hno]
              rw [hno] at HNA
              clear hst hxo HSG hTr hno
              go_wp2_with fail
              refine (unhide HNA _).mono ?_
              rintro e w2 ⟨rfl, rfl⟩
              go_wp2_with fail
              go_ret2
              exact ⟨by rw [hres.out]; rfl, (unhide HX).2.2.alloc (unhide HX).2.2.size _⟩
            | true =>
              rw [hno] at HNA
              have hXok := hxo.out hno
              have hst2 : Hid (signR t ks [] = if amongV acc ⟨xn, xi, xm⟩ = true then .tuple #[.string ⟨#[]⟩, .int .i64 200] else signR t (ks.drop (k + 1)) (acc ++ [⟨xn, xi, xm⟩])) := by
                rw [Hid, ← (unhide HX).1.out.1, hst.out, if_neg (by rw [hno]; decide)]
              have HXO := hide hXok; clear hst hxo hXok hTr hno
              go_wp2_with fail
              refine (unhide HNA _).mono ?_
              rintro e w2 ⟨rfl, rfl⟩
              go_wp2_with fail
              refine (unhide HSG).mono ?_
              rintro e w3 ⟨rfl, hb3⟩
              have hb3' : Below w.heap.size w w3 := ((unhide HX).2.2.alloc (unhide HX).2.2.size _).trans (hb3.mono (by have := (unhide HX).2.2.size; simp; omega))
              have hO3 := ((unhide HX).2.1.alloc (.cells #[.string kn, .string ksc] 27)).below hb3
              have ham := among_any u6 acc ⟨xn, xi, xm⟩ w.heap.size (w3.alloc (.cells #[.string xn, .string xi, .string xm] 71)) (by have := (unhide HX).1.out.2.1; omega) (hO3.alloc _)
              unfold sigV at ham
              have HAM := hide ham; have H3 := hide (And.intro hb3' hO3); clear ham hb3 hb3' hO3 HSG HNA c0' c1' c1''
              go_wp2_with fail
              refine (unhide HAM).mono ?_
              rintro e w4 ⟨rfl, hb4⟩
              have hb4' : Below w.heap.size w w4 := ((unhide H3).1.alloc (unhide H3).1.size _).trans (hb4.mono (by have := (unhide H3).1.size; simp; omega))
              have hO4 := ((unhide H3).2.alloc (.cells #[.string xn, .string xi, .string xm] 71)).below hb4
              have hN4 : Blk w4 w3.heap.size 71 #[.string xn, .string xi, .string xm] := (Blk.new w3 _ _).below hb4 (by simp)
              have k0 := hN4.cell 0; have k1 := hN4.cell 1; have k2 := hN4.cell 2
              simp only [List.getElem?_toArray, List.getElem?_cons_zero, List.getElem?_cons_succ] at k0 k1 k2
              have H4 := hide (And.intro hb4' hO4); clear hb4 hb4' hO4 hN4 HAM
              cases ham : amongV acc ⟨xn, xi, xm⟩ with
              | true =>
                have hres : Hid (signA t ks = .tuple #[.string ⟨#[]⟩, .int .i64 200]) := by rw [Hid, hr.out, hst2.out, if_pos ham]
                go_wp2_with fail
                go_ret2
                exact ⟨by rw [hres.out]; rfl, (unhide H4).1⟩
              | false =>
                have hnx : Hid (signR t ks [] = signR t (ks.drop (k + 1)) (acc ++ [⟨xn, xi, xm⟩])) := by rw [Hid, hst2.out, if_neg (by rw [ham]; decide)]
                clear hst2 ham
                go_wp2_with (first | (at_builtin; refine wpList_appG1 w4 rfl _ _ rfl (y := ⟨xn, xi, xm⟩) (unhide H4).2 rfl rfl (by have := (unhide HX).1.out.2.1; omega) (unhide H4).1.size ?_; intro v5 w5 hO5 hg5 hat5; have H5 := hide (And.intro hO5 (And.intro hg5 hat5)); clear hO5 hg5 hat5))
                go_roundw
                case rel =>
                  refine ⟨k + 1, acc ++ [⟨xn, xi, xm⟩], by omega, by go_num, Lib.hid ⟨hnx.out.symm, by have := (unhide HX).1.out.2.1; simp; omega, fun x hx => ?_⟩, (unhide H5).1, ((unhide H4).1.alloc (unhide H4).1.size _).grown (unhide H5).2.1 (by have := (unhide H4).1.size; simp; omega) (fun q hq => ((unhide H4).2.lt _ hq).1)⟩
                  rcases List.mem_append.1 hx with h | h
                  · exact (unhide HX).1.out.2.2 x h
                  · simp at h
                    rw [h]
                    exact unhide HXO
                case measure => simp [RowKit.intOf]; omega
          · have hk2 : ¬ (k : Int) < (ks.length : Int) := by omega
            obtain ⟨hI, hO, hb⟩ := unhide HX
            have hsl := sigsL_ok acc hI.out.2.2
            have hal := hI.out.2.1
            have hres : Hid (signA t ks = writA t acc) := by
              rw [Hid, hr.out, ← hI.out.1, List.drop_eq_nil_of_le hge]
              rfl
            have hwr := written_any t u6 acc w.heap.size wr ht (by omega) (fun x hx => by have h := hI.out.2.2 x hx; unfold SigOk at h; omega) (by omega) hO
            obtain ⟨x, z, hf, -⟩ := writA_form t acc
            rw [hf] at hwr hres
            have HWR := hide hwr; have HB := hide hb; clear hwr hf hsl hal hI hO hb
            go_wp2_with fail
            refine (unhide HWR).mono ?_
            rintro e w2 ⟨rfl, hb2⟩
            have hb2' := (unhide HB).trans (hb2.mono (unhide HB).size)
            have H2 := hide hb2'; clear hb2 hb2'
            go_wp2_with fail
            go_ret2
            exact ⟨by rw [hres.out]; rfl, unhide H2⟩
end Go.Proofs.YtfhaoamlagnpjaaDoor

/-
  CONTRACTS of the document's answer for note: part, Read.
-/
import Derived.Test.YtphoflcilpopgaaGreatDoorRows
import Derived.Test.YtphoflcilpopgaaGreatDoorGBase
import Derived.Test.YtphoflcilpopgaaGreatDoorGWhl
import Derived.Test.YtphoflcilpopgaaGreatDoorSRAmong
import Derived.Test.YtphoflcilpopgaaGreatDoorGRSg
import Derived.Test.YtphoflcilpopgaaGreatDoorGLns
import Derived.Test.YtphoflcilpopgaaGreatDoorGRd
import Derived.Test.YtphoflcilpopgaaGreatDoorSParse
set_option linter.unusedVariables false
set_option linter.unusedSimpArgs false
namespace Go.Proofs.YtphoflcilpopgaaGreatDoor
open Go.RowKit Go.Lib
theorem noTwo_drop {L : List UInt8} {k : Nat} (hk : k + 1 < L.length) (h : NoTwo (L.drop (k + 1))) (hn : ¬ (L[k] = 10 ∧ L[k + 1] = 10)) : NoTwo (L.drop k) := by
  rw [List.drop_eq_getElem_cons (by omega)]
  refine ⟨fun e => hn ⟨e.1, ?_⟩, h⟩
  have h2 := e.2
  rw [List.drop_eq_getElem_cons hk] at h2
  exact Option.some.inj h2
set_option maxRecDepth 100000 in
set_option maxHeartbeats 1000000 in
theorem rpart_any (s : ByteArray) (w : World) (hs : s.size ≤ 1099511627776) :
    Calls Tryz.prog 30 #[.string s] w fun e w' => ∃ z : Int, e = .returned (.int .i64 z) ∧ PartIs s.data.toList z ∧ w = w' := by
  have hll : s.data.toList.length = s.size := Array.length_toList
  go_enter Tryz.func30, Tryz.ntmps30
  go_wp2_with fail
  go_loop [3] (fun i => ∃ z : Int, i = .int .i64 z ∧ -2 ≤ z ∧ z ≤ (s.size : Int) - 2 ∧ Hid (NoTwo (s.data.toList.drop (z + 1).toNat))) (fun i => (RowKit.intOf i + 2).toNat)
  case atStart =>
    refine ⟨_, rfl, by omega, by omega, ?_⟩
    rcases Nat.eq_zero_or_pos s.size with h0 | h0
    · rw [List.drop_eq_nil_of_le (by omega)]; trivial
    · have e : ((s.size : Int) - 2 + 1).toNat = s.size - 1 := by omega
      rw [e, List.drop_eq_getElem_cons (by omega), List.drop_eq_nil_of_le (by omega)]
      exact ⟨fun e => by simp at e, trivial⟩
  case round =>
    obtain ⟨z, rfl, hz1, hz2, hN⟩ := hrel
    by_cases hz : 0 ≤ z
    · obtain ⟨k, rfl⟩ : ∃ k : Nat, z = (k : Int) := ⟨z.toNat, by omega⟩
      have hk1 : k < s.size := by omega
      have hk2 : k + 1 < s.size := by omega
      have hN' : Hid (NoTwo (s.data.toList.drop (k + 1))) := by
        have h := hN.out
        rw [show ((k : Int) + 1).toNat = k + 1 from by omega] at h
        exact h
      clear hN
      have e1 : s.data.toList[k]'(by omega) = s[k] := rfl
      have e2 : s.data.toList[k + 1]'(by omega) = s[k + 1] := rfl
      have i1 : (k : Int) < (s.size : Int) := by omega
      have i2 : (k : Int) + 1 < (s.size : Int) := by omega
      by_cases h1 : s[k] = 10
      · have t1 : ((s[k].toNat : Int) == 10) = true := by rw [h1]; rfl
        by_cases h2 : s[k + 1] = 10
        · have t2 : ((s[k + 1].toNat : Int) == 10) = true := by rw [h2]; rfl
          have hp : Hid (PartIs s.data.toList ((k : Int) + 1)) := by
            refine .inr ⟨s.data.toList.take (k + 1), s.data.toList.drop (k + 2), ?_, ?_, ?_, ?_⟩
            · have h3 := List.drop_eq_getElem_cons (l := s.data.toList) (i := k + 1) (by omega)
              rw [e2, h2] at h3
              rw [← h3, List.take_append_drop]
            · rw [List.take_succ_eq_append_getElem (by omega), e1, h1, List.getLast?_concat]
            · have h3 := List.drop_eq_getElem_cons (l := s.data.toList) (i := k + 1) (by omega)
              rw [e2, h2] at h3
              rw [← h3]; exact hN'.out
            · rw [List.length_take, hll]; omega
          clear h1 h2 e1 e2 hN'
          go_wp2_with fail
          go_ret
          exact ⟨_, rfl, hp.out, rfl⟩
        · have t2 : ((s[k + 1].toNat : Int) == 10) = false := by
            rw [beq_eq_false_iff_ne]; intro e
            exact h2 (UInt8.toNat_inj.1 (by have : s[k + 1].toNat = 10 := by omega
                                            rw [this]; rfl))
          have hp : Hid (NoTwo (s.data.toList.drop k)) := noTwo_drop (by omega) hN'.out (fun h => h2 (by rw [← e2]; exact h.2))
          clear h1 h2 e1 e2 hN'
          go_wp2_with fail
          go_round
          case rel => exact ⟨(k : Int) - 1, rfl, by omega, by omega, by rw [show ((k : Int) - 1 + 1).toNat = k from by omega]; exact hp⟩
          case measure => simp [RowKit.intOf]; omega
      · have t1 : ((s[k].toNat : Int) == 10) = false := by
          rw [beq_eq_false_iff_ne]; intro e
          exact h1 (UInt8.toNat_inj.1 (by have : s[k].toNat = 10 := by omega
                                          rw [this]; rfl))
        have hp : Hid (NoTwo (s.data.toList.drop k)) := noTwo_drop (by omega) hN'.out (fun h => h1 (by rw [← e1]; exact h.1))
        clear h1 e1 e2 hN'
        go_wp2_with fail
        go_round
        case rel => exact ⟨(k : Int) - 1, rfl, by omega, by omega, by rw [show ((k : Int) - 1 + 1).toNat = k from by omega]; exact hp⟩
        case measure => simp [RowKit.intOf]; omega
    · have hp : Hid (PartIs s.data.toList (-1)) := by
        refine .inl ⟨rfl, ?_⟩
        have h := hN.out
        rw [show (z + 1).toNat = 0 from by omega] at h
        exact h
      clear hN
      go_wp2_with fail
      go_ret
      exact ⟨_, rfl, hp.out, rfl⟩
theorem part_le {L : List UInt8} {z : Int} (h : PartIs L z) : z < L.length ∧ -1 ≤ z := by
  rcases h with ⟨rfl, -⟩ | ⟨u, v, rfl, -, -, rfl⟩
  · omega
  · simp; omega
theorem linesV_mem {s : ByteArray} {es : List ByteArray} (h : linesV s = some es) : ∀ x ∈ es, x.size ≤ s.size := by
  intro x hx
  have hll : s.data.toList.length = s.size := Array.length_toList
  unfold linesV at h
  split at h
  · injection h with h; subst h; simp at hx
  · split at h
    · injection h with h
      subst h
      obtain ⟨y, hy, rfl⟩ := List.mem_map.1 hx
      have := splL_mem 10 _ _ hy
      rw [List.length_dropLast] at this
      rw [bsL_size]; omega
    · cases h
theorem OwnT.keepG {w w' : World} {b b' : Nat} {t v : Value} {es : List ByteArray} {xs : List SigR} {o : Obj} (h : OwnT w b t es) (hG : OwnG w b' v xs) (hg : (w.alloc o).grownBy w' v.ownBlock) : OwnT w' b t es := by
  refine World.ownsRow.kept (h.alloc o) hg ?_
  rcases h.2 with ⟨rfl, _⟩ | ⟨g, cap, cur, rfl, _, hh, _⟩
  · exact .inl rfl
  · refine .inr fun e => ?_
    have e' : v.ownBlock = some g := by simpa [Value.ownBlock] using e.symm
    exact own_blk_ne hG (g := g) (t := 9) (cs := cur) hh (by decide) e'
set_option maxRecDepth 100000 in
set_option maxHeartbeats 4000000 in
theorem rread_any (note : ByteArray) (w : World) (hs : note.size ≤ 1099511627776) :
    Calls Tryz.prog 12 #[.string note] w fun e w' => ReadR w.heap.size note e w' ∧ Below w.heap.size w w' := by
  rcases Nat.lt_or_ge 65536 note.size with h6 | h6
  · have h6' : (65536 : Int) < (note.size : Int) := by omega
    go_enter Tryz.func12, Tryz.ntmps12
    go_wp2_with fail
    go_ret3
    exact ⟨.inl ⟨h6, rfl⟩, Below.refl _ _⟩
  · have h6' : ¬ (65536 : Int) < (note.size : Int) := by omega
    have hll : note.data.toList.length = note.size := Array.length_toList
    have hpa := rpart_any note w hs
    have HPA := hide hpa; clear hpa
    go_enter Tryz.func12, Tryz.ntmps12
    go_wp2_with fail
    refine (unhide HPA).mono ?_
    rintro e w1 ⟨z, rfl, hz, rfl⟩
    have hzl := part_le hz
    have hsame := Lib.hid (read_same note z hz)
    clear hz
    by_cases hz0 : z < 0
    · have hres : Hid (readV note = none) := by rw [Hid, ← hsame.out]; unfold refV; rw [if_pos hz0]
      clear hsame
      go_wp2_with fail
      go_ret3
      exact ⟨.inr (.inl ⟨h6, hres.out, rfl⟩), Below.refl _ _⟩
    · obtain ⟨k, rfl⟩ : ∃ k : Nat, z = (k : Int) := ⟨z.toNat, by omega⟩
      have hk : k + 1 ≤ note.size := by omega
      have hgo := fun W => rgoes_any (note.extract 0 k) W (by rw [ByteArray.size_extract]; omega)
      have hli := fun W => rlines_any (note.extract (k + 1) note.size) W (by rw [ByteArray.size_extract]; omega)
      have hrf : Hid (readV note = if goesV (note.extract 0 k) = true then match linesV (note.extract (k + 1) note.size) with
          | none => none
          | some L => if L.length = 0 ∨ 16 < L.length then none else (rdFw L []).map fun S => (note.extract 0 k, S)
        else none) := by rw [Hid, ← hsame.out]; unfold refV; rw [if_neg hz0, Int.toNat_natCast]; rfl
      have hlz : (note.extract (k + 1) note.size).size ≤ 65536 := by rw [ByteArray.size_extract]; omega
      have i1 : (k : Int) + 1 ≤ (note.size : Int) := by omega
      have HGO := hide hgo; have HLI := hide hli; clear hgo hli hsame
      go_wp2_with fail
      generalize note.extract 0 k = txt at *
      refine ((unhide HGO) _).mono ?_
      rintro e w2 ⟨rfl, hb2⟩
      have HB2 := hide hb2; clear hb2
      go_wp2_with fail
      generalize note.extract (k + 1) note.size = rst at *
      refine ((unhide HLI) _).mono ?_
      rintro e w3 ⟨v3, rfl, hL, hb3⟩
      have hb3' := (unhide HB2).trans (hb3.mono (unhide HB2).size)
      rcases hL.get with ⟨es, u, hes, rfl, hO⟩ | ⟨hes, rfl⟩
      · have hmem := linesV_mem hes
        have hrf2 : Hid (readV note = if goesV txt = true then (if es.length = 0 ∨ 16 < es.length then none else (rdFw es []).map fun S => (txt, S)) else none) := by rw [Hid, hrf.out, hes]
        have HB3 := hide (And.intro hb3' (And.intro (hO.mono (unhide HB2).size) (fun x hx => Nat.le_trans (hmem x hx) hlz))); clear hb3' hb3 hL hrf hes hmem hO
        obtain ⟨A, c, rfl⟩ : ∃ A c, u = .slice A es.length c := by
          rcases (unhide HB3).2.1.form with ⟨h1, h2⟩ | ⟨g, cap, h1, -⟩
          · exact ⟨none, 0, by rw [h1, h2]; rfl⟩
          · exact ⟨_, _, h1⟩
        cases hg : goesV txt with
        | false =>
          have hres : Hid (readV note = none) := by rw [Hid, hrf2.out, if_neg (by rw [hg]; decide)]
          clear hrf2 hg
          go_wp2_with fail
          go_ret3
          exact ⟨.inr (.inl ⟨h6, hres.out, rfl⟩), (unhide HB3).1⟩
        | true =>
          by_cases hlen : es.length = 0 ∨ 16 < es.length
          · have hres : Hid (readV note = none) := by rw [Hid, hrf2.out, if_pos hg, if_pos hlen]
            clear hrf2 hg
            rcases hlen with hlen | hlen
            · have h0' : ((es.length : Int) == 0) = true := by rw [hlen]; rfl
              clear hlen
              go_wp2_with fail
              go_ret3
              exact ⟨.inr (.inl ⟨h6, hres.out, rfl⟩), (unhide HB3).1⟩
            · have h0' : ((es.length : Int) == 0) = false := by rw [beq_eq_false_iff_ne]; omega
              have h16' : (16 : Int) < (es.length : Int) := by omega
              go_wp2_with fail
              go_ret3
              exact ⟨.inr (.inl ⟨h6, hres.out, rfl⟩), (unhide HB3).1⟩
          · have hrf3 : Hid (readV note = (rdFw es []).map fun S => (txt, S)) := by rw [Hid, hrf2.out, if_pos hg, if_neg hlen]
            have h0' : ((es.length : Int) == 0) = false := by rw [beq_eq_false_iff_ne]; omega
            have h16' : ¬ (16 : Int) < (es.length : Int) := by omega
            have hn16 : es.length ≤ 16 := by omega
            clear hrf2 hg hlen
            go_wp2_with fail
            go_loopw [10, 11] (fun v i wr => ∃ (k : Nat) (acc : List SigR), k ≤ es.length ∧ i = .int .i64 k ∧ Hid (rdFw (es.drop k) acc = rdFw es []) ∧ acc.length = k ∧ OwnG wr w.heap.size v acc ∧ Below w.heap.size w wr ∧ OwnT wr w.heap.size (.slice A es.length c) es) (fun _ i _ => es.length - (RowKit.intOf i).toNat)
            case atStart => exact ⟨0, [], by omega, rfl, Lib.hid rfl, rfl, OwnG.nil _ _, (unhide HB3).1, (unhide HB3).2.1⟩
            case round =>
              obtain ⟨j, acc, hj, rfl, hI, hal, hOG, hb, hOT⟩ := hrel
              have hal1 : acc.length ≤ 16 := by omega
              have hal2 : j ≤ acc.length := by omega
              have hal3 : acc.length ≤ j := by omega
              have HX := hide (And.intro hI (And.intro hOG (And.intro hb hOT))); clear hI hOG hb hOT hal
              rcases Nat.lt_or_ge j es.length with hlt | hge
              · obtain ⟨g, rfl, hcell⟩ : ∃ g, A = some ⟨g, 0, none⟩ ∧ wr.cell? ⟨g, j, none⟩ = some (.string es[j]) := by
                  rcases (unhide HX).2.2.2.form with ⟨h1, h2⟩ | ⟨g, cap, h1, -⟩
                  · rw [h2] at hlt; simp at hlt
                  · injection h1 with e1 _ e3
                    subst e1 e3
                    exact ⟨g, rfl, (unhide HX).2.2.2.cell j hlt⟩
                have hj2 : (j : Int) < (es.length : Int) := by omega
                have hxs := (unhide HB3).2.2 _ (List.getElem_mem hlt)
                have hst : Hid (rdFw es [] = match sigP es[j] with
                    | none => none
                    | some x => if amongV acc x = true then none else rdFw (es.drop (j + 1)) (acc ++ [x])) := by
                  rw [Hid, ← (unhide HX).1.out, List.drop_eq_getElem_cons hlt, rdFw]; rfl
                generalize es[j] = x at *
                have hsg := rsig_any x wr (by omega)
                have HSG := hide hsg; clear hsg
                cases hsp : sigP x with
                | none =>
                  have hres : Hid (readV note = none) := by rw [Hid, hrf3.out, hst.out, hsp]; rfl
                  rw [sigA_none hsp] at HSG
                  clear hst hsp hrf3
                  unfold sigV noSig at HSG
                  dsimp only at HSG
                  go_wp2_with fail
                  refine (unhide HSG).mono ?_
                  rintro e w4 ⟨rfl, hb4⟩
                  have hb4' : Below w.heap.size w w4 := (unhide HX).2.2.1.trans (hb4.mono (unhide HX).2.2.1.size)
                  have hO4 := (unhide HX).2.1.below hb4
                  have ham := ramong_any u10 acc ⟨⟨#[]⟩, ⟨#[]⟩, ⟨#[]⟩⟩ w.heap.size (w4.alloc (.cells #[.string ⟨#[]⟩, .string ⟨#[]⟩, .string ⟨#[]⟩] 43)) (by omega) (hO4.alloc _)
                  unfold sigV at ham
                  have HAM := hide ham; have H4 := hide (And.intro hb4' hO4); clear ham hb4 hb4' hO4 HSG hcell
                  go_wp2_with fail
                  refine (unhide HAM).mono ?_
                  rintro e w5 ⟨rfl, hb5⟩
                  have hb5' : Below w.heap.size w w5 := ((unhide H4).1.alloc (unhide H4).1.size _).trans (hb5.mono (by have := (unhide H4).1.size; simp; omega))
                  have H5 := hide hb5'; clear hb5 hb5'
                  go_wp2_with fail
                  go_ret3
                  exact ⟨.inr (.inl ⟨h6, hres.out, rfl⟩), unhide H5⟩
                | some y =>
                  have hst2 : Hid (rdFw es [] = if amongV acc y = true then none else rdFw (es.drop (j + 1)) (acc ++ [y])) := by rw [Hid, hst.out, hsp]
                  rw [sigA_some hsp] at HSG
                  obtain ⟨xn, xi, xm⟩ := y
                  clear hst hsp
                  unfold sigV at HSG
                  dsimp only at HSG
                  go_wp2_with fail
                  refine (unhide HSG).mono ?_
                  rintro e w4 ⟨rfl, hb4⟩
                  have hb4' : Below w.heap.size w w4 := (unhide HX).2.2.1.trans (hb4.mono (unhide HX).2.2.1.size)
                  have hO4 := (unhide HX).2.1.below hb4
                  have hT4 := (unhide HX).2.2.2.below hb4
                  have ham := ramong_any u10 acc ⟨xn, xi, xm⟩ w.heap.size (w4.alloc (.cells #[.string xn, .string xi, .string xm] 43)) (by omega) (hO4.alloc _)
                  unfold sigV at ham
                  have HAM := hide ham; have H4 := hide (And.intro hb4' (And.intro hO4 hT4)); clear ham hb4 hb4' hO4 hT4 HSG hcell
                  go_wp2_with fail
                  refine (unhide HAM).mono ?_
                  rintro e w5 ⟨rfl, hb5⟩
                  have hb5' : Below w.heap.size w w5 := ((unhide H4).1.alloc (unhide H4).1.size _).trans (hb5.mono (by have := (unhide H4).1.size; simp; omega))
                  have hO5 := ((unhide H4).2.1.alloc (.cells #[.string xn, .string xi, .string xm] 43)).below hb5
                  have hT5 := ((unhide H4).2.2.alloc (.cells #[.string xn, .string xi, .string xm] 43)).below hb5
                  have hN5 : Blk w5 w4.heap.size 43 #[.string xn, .string xi, .string xm] := (Blk.new w4 _ _).below hb5 (by simp)
                  have k0 := hN5.cell 0; have k1 := hN5.cell 1; have k2 := hN5.cell 2
                  simp only [List.getElem?_toArray, List.getElem?_cons_zero, List.getElem?_cons_succ] at k0 k1 k2
                  have H5 := hide (And.intro hb5' (And.intro hO5 hT5)); clear hb5 hb5' hO5 hN5 hT5 HAM
                  cases ham : amongV acc ⟨xn, xi, xm⟩ with
                  | true =>
                    have hres : Hid (readV note = none) := by rw [Hid, hrf3.out, hst2.out, if_pos ham]; rfl
                    clear hst2 hrf3
                    go_wp2_with fail
                    go_ret3
                    exact ⟨.inr (.inl ⟨h6, hres.out, rfl⟩), (unhide H5).1⟩
                  | false =>
                    have hnx : Hid (rdFw (es.drop (j + 1)) (acc ++ [⟨xn, xi, xm⟩]) = rdFw es []) := by rw [Hid, hst2.out, if_neg (by rw [ham]; decide)]
                    clear hst2 ham
                    go_wp2_with (first | (at_builtin; refine wpList_appG1 w5 rfl _ _ rfl (y := ⟨xn, xi, xm⟩) (unhide H5).2.1 rfl rfl (by omega) (unhide H5).1.size ?_; intro v6 w6 hO6 hg6 hat6; have H6 := hide (And.intro hO6 hg6); clear hO6 hg6 hat6))
                    go_roundw
                    case rel =>
                      refine ⟨j + 1, acc ++ [⟨xn, xi, xm⟩], by omega, by go_num, hnx, by simp; omega, (unhide H6).1, ((unhide H5).1.alloc (unhide H5).1.size _).grown (unhide H6).2 (by have := (unhide H5).1.size; simp; omega) (fun q hq => ((unhide H5).2.1.lt _ hq).1), ?_⟩
                      exact (unhide H5).2.2.keepG (unhide H5).2.1 (unhide H6).2
                    case measure => simp [RowKit.intOf]; omega
              · have hj2 : ¬ (j : Int) < (es.length : Int) := by omega
                have hres : Hid (readV note = some (txt, acc)) := by
                  rw [Hid, hrf3.out, ← (unhide HX).1.out, List.drop_eq_nil_of_le hge]; rfl
                clear hrf3
                go_wp2_with fail
                go_ret3
                exact ⟨.inr (.inr ⟨h6, _, _, _, hres.out, rfl, (unhide HX).2.1⟩), (unhide HX).2.2.1⟩
      · have hres : Hid (readV note = none) := by rw [Hid, hrf.out, hes]; split <;> rfl
        have HB3 := hide hb3'; clear hb3' hb3 hL hrf hes
        cases hg : goesV txt with
        | false =>
          go_wp2_with fail
          go_ret3
          exact ⟨.inr (.inl ⟨h6, hres.out, rfl⟩), unhide HB3⟩
        | true =>
          go_wp2_with fail
          go_ret3
          exact ⟨.inr (.inl ⟨h6, hres.out, rfl⟩), unhide HB3⟩
end Go.Proofs.YtphoflcilpopgaaGreatDoor

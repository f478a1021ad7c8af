/-
  CONTRACTS of note.owner and of the document's: the first known key that a signature is of.
-/
import Derived.Test.YtphoflcilpopgaaGreatDoorRows
import Derived.Deep.QuietTactic
import Derived.BigQuiet
import Derived.Deep.RegionHeld3
import Derived.Laws.ResultCell
import Derived.Test.YtphoflcilpopgaaGreatDoorGBase
import Derived.Test.YtphoflcilpopgaaGreatDoorGMacs
import Derived.Test.YtphoflcilpopgaaGreatDoorGKs
set_option linter.unusedVariables false
set_option linter.unusedSimpArgs false
namespace Go.Proofs.YtphoflcilpopgaaGreatDoor
open Go.RowKit Go.Lib
/-- The four bytes of a key. -/
def kidB (k : KeyR) : ByteArray := ⟨(keyIDL k.nm.data.toList k.sc.data.toList).toArray⟩
/-- Is a signature of this key? -/
def ofKey (s : SigR) (k : KeyR) : Bool := nameOk k.nm && decide (k.nm = s.nm) && decide (kidB k = s.id)
def ownerF (ks : List KeyR) (s : SigR) : Option KeyR := ks.find? (ofKey s)
/-- Where it stands. -/
def ownerI : List KeyR → SigR → Nat → Int
  | [], _, _ => -1
  | k :: r, s, i => if ofKey s k = true then (i : Int) else ownerI r s (i + 1)
def ownerA (ks : List KeyR) (s : SigR) : Value := match ownerF ks s with
  | some k => .tuple #[keyV k, .bool true]
  | none => .tuple #[keyV ⟨⟨#[]⟩, ⟨#[]⟩⟩, .bool false]
theorem results_key {fn : Func} {p u : Tmp} (h : fn.results = #[.cell p 49, .tmp u]) (tmps : Array Value) (w : World) (g : Nat) (a b : Value) (hp : tmps.getD p undef = .pointer (some ⟨g, 0, none⟩)) (hB : Blk w g 49 #[a, b]) :
    (results fn tmps).run Tryz.prog w = .ok (.tuple #[.agg #[a, b], tmps.getD u undef]) w := by
  rw [results_cell_tmp h, hp]
  have hl := run_loadVar_row (P := Tryz.prog) w g 49 49 #[a, b] (0, 0) _ hB Tryz.underlying49 rfl (by kernel_rfl)
  simp [asAddr, hl, Result.andThen]
theorem blk2_store {w : World} {g : Nat} {t : TypeId} {a b : Value} (h : Blk w g t #[a, b]) (a' b' : Value) : Blk ((w.setCell ⟨g, 0, none⟩ a').setCell ⟨g, 1, none⟩ b') g t #[a', b'] := (h.set_ 0 a').set_ 1 b'
theorem below2_store {B : Nat} {a w : World} {g : Nat} (h : Below B a w) (hg : B ≤ g) (a' b' : Value) : Below B a ((w.setCell ⟨g, 0, none⟩ a').setCell ⟨g, 1, none⟩ b') := (h.setCell (p := ⟨g, 0, none⟩) hg _).setCell (p := ⟨g, 1, none⟩) hg _
set_option maxRecDepth 100000 in
set_option maxHeartbeats 4000000 in
theorem owner_any (v : Value) (ks : List KeyR) (s : SigR) (w : World) (hks : ∀ k ∈ ks, k.nm.size ≤ 1099511627776 ∧ k.sc.size ≤ 1099511627776) (hn : ks.length ≤ 1099511627776) (hV : KeysAt w v ks) (hT : PTab w) :
    Calls Tryz.prog 20 #[v, sigV s] w fun e w' => e = .returned (ownerA ks s) ∧ Below w.heap.size w w' := by
  obtain ⟨A, c, rfl, -⟩ := id hV
  obtain ⟨sn, si, sm⟩ := s
  unfold sigV
  have HKS := hide hks; have HV := hide hV; have HT := hide hT; clear hks hV hT
  go_enter Tryz.func20, Tryz.ntmps20
  go_wp2_with fail
  have hA1 : Blk ((w.alloc (.cells #[.string sn, .string si, .string sm] 43)).alloc (.cells #[.string ⟨#[]⟩, .string ⟨#[]⟩] 49)) w.heap.size 43 #[.string sn, .string si, .string sm] := (Blk.new _ _ _).alloc _
  have hA2 : Blk ((w.alloc (.cells #[.string sn, .string si, .string sm] 43)).alloc (.cells #[.string ⟨#[]⟩, .string ⟨#[]⟩] 49)) (w.heap.size + 1) 49 #[.string ⟨#[]⟩, .string ⟨#[]⟩] := by
    have h := Blk.new (w.alloc (.cells #[.string sn, .string si, .string sm] 43)) 49 #[.string ⟨#[]⟩, .string ⟨#[]⟩]
    rw [World.size_alloc] at h; exact h
  have hA3 : Below w.heap.size w ((w.alloc (.cells #[.string sn, .string si, .string sm] 43)).alloc (.cells #[.string ⟨#[]⟩, .string ⟨#[]⟩] 49)) := ((Below.refl _ _).alloc (Nat.le_refl _) _).alloc (by simp) _
  generalize ((w.alloc (.cells #[.string sn, .string si, .string sm] 43)).alloc (.cells #[.string ⟨#[]⟩, .string ⟨#[]⟩] 49)) = w0 at *
  have H0 := hide (And.intro hA1 (And.intro hA2 hA3)); clear hA1 hA2 hA3
  go_loopw [10] (fun i wr => ∃ k : Nat, k ≤ ks.length ∧ i = .int .i64 k ∧ Hid (ownerF (ks.drop k) ⟨sn, si, sm⟩ = ownerF ks ⟨sn, si, sm⟩) ∧ Blk wr w.heap.size 43 #[.string sn, .string si, .string sm] ∧ Blk wr (w.heap.size + 1) 49 #[.string ⟨#[]⟩, .string ⟨#[]⟩] ∧ Below w.heap.size w wr) (fun i _ => ks.length - (RowKit.intOf i).toNat)
  case atStart => exact ⟨0, by omega, rfl, Lib.hid rfl, (unhide H0).1, (unhide H0).2.1, (unhide H0).2.2⟩
  case round =>
    clear H0
    obtain ⟨k, hk, rfl, hI, hA1, hA2, hb⟩ := hrel
    rcases Nat.lt_or_ge k ks.length with hlt | hge
    · obtain ⟨A', c', hvv, hc⟩ := unhide HV
      injection hvv with e1 e2 e3
      subst e1 e3
      obtain ⟨a, rfl, c0, c1⟩ := hc k hlt
      have c0' := (hb.cell (World.block_lt_of_cell? w _ c0)).trans c0
      have c1' := (hb.cell (World.block_lt_of_cell? w _ c1)).trans c1
      have hk2 : (k : Int) < (ks.length : Int) := by omega
      have hkk := unhide HKS _ (List.getElem_mem hlt)
      have hst : Hid (ownerF ks ⟨sn, si, sm⟩ = if ofKey ⟨sn, si, sm⟩ ks[k] = true then some ks[k] else ownerF (ks.drop (k + 1)) ⟨sn, si, sm⟩) := by
        rw [Hid, ← hI.out, List.drop_eq_getElem_cons hlt]
        unfold ownerF
        rw [List.find?_cons]
        split <;> simp_all
      have hTr : PTab wr := (unhide HT).next hb
      generalize ks[k] = key at *
      obtain ⟨kn, ksc⟩ := key
      simp only at hkk c0' c1'
      have hadd : (a.add (k * 2)).add 1 = a.add (k * 2 + 1) := Addr.add_add a (k * 2) 1
      have c1'' : wr.cell? ⟨(a.add (k * 2)).block, (a.add (k * 2)).off + 1, none⟩ = some (.string ksc) := by
        have e : (⟨(a.add (k * 2)).block, (a.add (k * 2)).off + 1, none⟩ : Addr) = (a.add (k * 2)).add 1 := rfl
        rw [e, hadd]
        exact c1'
      have hna := fun W => name_any kn W (by simp only [maxLen]; omega)
      have hki := fun W (h : PTab W) => keyID_any kn ksc W (by omega) (by omega) h.1 h.2
      have hz := hA2.lt
      have hK1 := Blk.new wr 49 #[.string kn, .string ksc]
      have hb1 : Below w.heap.size w (wr.alloc (.cells #[.string kn, .string ksc] 49)) := hb.alloc hb.size _
      have H1 := hide (And.intro (hA1.alloc (.cells #[.string kn, .string ksc] 49)) (And.intro (hA2.alloc (.cells #[.string kn, .string ksc] 49)) (And.intro hb1 (And.intro hK1 (hTr.alloc (.cells #[.string kn, .string ksc] 49))))))
      have HNA := hide hna; have HKI := hide hki
      clear hadd c0 c1 c1' hc hna hki hA1 hA2 hK1 hb1 hTr hI hb hkk
      go_wp2_with fail
      clear c0' c1''
      generalize wr.heap.size = g7 at *
      generalize (wr.alloc (.cells #[.string kn, .string ksc] 49)) = w1 at *
      have k0 := (unhide H1).2.2.2.1.cell 0; have k1 := (unhide H1).2.2.2.1.cell 1
      have s0 := (unhide H1).1.cell 0; have s1 := (unhide H1).1.cell 1; have s2 := (unhide H1).1.cell 2
      simp only [List.getElem?_toArray, List.getElem?_cons_zero, List.getElem?_cons_succ] at k0 k1 s0 s1 s2
      cases hno : nameOk kn with
      | false =>
        have hnx : Hid (ownerF (ks.drop (k + 1)) ⟨sn, si, sm⟩ = ownerF ks ⟨sn, si, sm⟩) := by
          rw [Hid, hst.out, if_neg]; unfold ofKey; simp [hno]
        rw [hno] at HNA
        clear hst hno
        go_quiet ((go_at_call 49; exact quiet_left (unhide HNA _)))
        go_wp2_with fail
        go_roundw
        case rel => exact ⟨k + 1, by omega, by go_num, hnx, (unhide H1).1.drewN _, (unhide H1).2.1.drewN _, below_drewN (unhide H1).2.2.1 _⟩
        case measure => simp [RowKit.intOf]; omega
      | true =>
        by_cases hnm : kn = sn
        · subst hnm
          rw [hno] at HNA
          have hko : ofKey ⟨kn, si, sm⟩ ⟨kn, ksc⟩ = decide (kidB ⟨kn, ksc⟩ = si) := by unfold ofKey; simp [hno]
          have hki2 : ∀ W, PTab W → Calls Tryz.prog 50 #[.string kn, .string ksc] W fun e w' => e = .returned (.string (kidB ⟨kn, ksc⟩)) ∧ Below W.heap.size W w' := fun W h => unhide HKI W h
          rw [hko] at hst
          have HK2 := hide hki2; clear hki2 HKI hko hno
          by_cases hid : kidB ⟨kn, ksc⟩ = si
          · have hres : Hid (ownerF ks ⟨kn, si, sm⟩ = some ⟨kn, ksc⟩) := by rw [Hid, hst.out, if_pos (by simpa using hid)]
            rw [hid] at HK2
            clear hst hid
            go_region_held3 (fun W => W.cell? ⟨g7, 0, none⟩ = some (.string kn) ∧ W.cell? ⟨g7, 1, none⟩ = some (.string ksc) ∧ W.cell? ⟨w.heap.size, 0, none⟩ = some (.string kn) ∧ W.cell? ⟨w.heap.size, 1, none⟩ = some (.string si)) (refine ⟨?_, ?_, ?_, ?_⟩ <;> assumption) (first | (go_at_call 49; refine (unhide HNA _).mono ?_; rintro e w2 ⟨rfl, rfl⟩) | (go_at_call 50; refine ((unhide HK2) _ (unhide H1).2.2.2.2.drew).mono ?_; rintro e w3 ⟨rfl, hb3⟩; have hS3 := (unhide H1).1.drew.below hb3 (unhide H1).1.lt; have hK3 := (unhide H1).2.2.2.1.drew.below hb3 (unhide H1).2.2.2.1.lt; have hA3 := (unhide H1).2.1.drew.below hb3 (unhide H1).2.1.lt; have k30 := hK3.cell 0; have k31 := hK3.cell 1; have s30 := hS3.cell 0; have s31 := hS3.cell 1; simp only [List.getElem?_toArray, List.getElem?_cons_zero, List.getElem?_cons_succ] at k30 k31 s30 s31))
            have hb3' : Below w.heap.size w w3 := (unhide H1).2.2.1.drew.trans (hb3.mono (unhide H1).2.2.1.size)
            have a30 := hA3.cell 0; have a31 := hA3.cell 1; have af0 := hA3.frozen 0; have af1 := hA3.frozen 1
            simp only [List.getElem?_toArray, List.getElem?_cons_zero, List.getElem?_cons_succ] at a30 a31
            have H3 := hide (And.intro hA3 hb3'); clear hA3 hb3 hb3' hS3 hK3 s30 s31 k0 k1 s0 s1 s2
            go_wp2_with fail
            (try simp only [Exit.inBlock, Exit.then])
            refine bodyPost_ret (results_key rfl _ _ (w.heap.size + 1) _ _ rfl (blk2_store (unhide H3).1 (.string kn) (.string ksc))) rfl ?_
            exact ⟨by unfold ownerA; rw [hres.out]; rfl, below2_store (unhide H3).2 (by omega) _ _⟩
          · have hnx : Hid (ownerF (ks.drop (k + 1)) ⟨kn, si, sm⟩ = ownerF ks ⟨kn, si, sm⟩) := by
              rw [Hid, hst.out, if_neg (by simpa using hid)]
            have hne := toList_ne hid
            clear hst hid
            generalize kidB ⟨kn, ksc⟩ = kid at *
            go_region_held3 (fun W => W.cell? ⟨g7, 0, none⟩ = some (.string kn) ∧ W.cell? ⟨g7, 1, none⟩ = some (.string ksc) ∧ W.cell? ⟨w.heap.size, 0, none⟩ = some (.string kn) ∧ W.cell? ⟨w.heap.size, 1, none⟩ = some (.string si)) (refine ⟨?_, ?_, ?_, ?_⟩ <;> assumption) (first | (go_at_call 49; refine (unhide HNA _).mono ?_; rintro e w2 ⟨rfl, rfl⟩) | (go_at_call 50; refine ((unhide HK2) _ (unhide H1).2.2.2.2.drew).mono ?_; rintro e w3 ⟨rfl, hb3⟩; have hS3 := (unhide H1).1.drew.below hb3 (unhide H1).1.lt; have hK3 := (unhide H1).2.2.2.1.drew.below hb3 (unhide H1).2.2.2.1.lt; have hA3 := (unhide H1).2.1.drew.below hb3 (unhide H1).2.1.lt; have k30 := hK3.cell 0; have k31 := hK3.cell 1; have s30 := hS3.cell 0; have s31 := hS3.cell 1; simp only [List.getElem?_toArray, List.getElem?_cons_zero, List.getElem?_cons_succ] at k30 k31 s30 s31))
            have hb3' : Below w.heap.size w w3 := (unhide H1).2.2.1.drew.trans (hb3.mono (unhide H1).2.2.1.size)
            have H3 := hide (And.intro hS3 (And.intro hA3 hb3')); clear hA3 hb3 hb3' hS3 hK3 s30 s31 k30 k31 k0 k1 s0 s1 s2
            go_wp2_with fail
            go_roundw
            case rel => exact ⟨k + 1, by omega, by go_num, hnx, (unhide H3).1, (unhide H3).2.1, (unhide H3).2.2⟩
            case measure => simp [RowKit.intOf]; omega
        · have hnx : Hid (ownerF (ks.drop (k + 1)) ⟨sn, si, sm⟩ = ownerF ks ⟨sn, si, sm⟩) := by
            rw [Hid, hst.out, if_neg]; unfold ofKey; simp [hnm]
          have hne := toList_ne hnm
          rw [hno] at HNA
          clear hst hno hnm
          go_quiet ((go_at_call 49; exact quiet_left (unhide HNA _)))
          go_wp2_with fail
          go_roundw
          case rel => exact ⟨k + 1, by omega, by go_num, hnx, (unhide H1).1.drewN _, (unhide H1).2.1.drewN _, below_drewN (unhide H1).2.2.1 _⟩
          case measure => simp [RowKit.intOf]; omega
    · have hk2 : ¬ (k : Int) < (ks.length : Int) := by omega
      have hres : Hid (ownerF ks ⟨sn, si, sm⟩ = none) := by
        rw [Hid, ← hI.out, List.drop_eq_nil_of_le hge]; rfl
      have a30 := hA2.cell 0; have a31 := hA2.cell 1; have af0 := hA2.frozen 0; have af1 := hA2.frozen 1
      simp only [List.getElem?_toArray, List.getElem?_cons_zero, List.getElem?_cons_succ] at a30 a31
      have H3 := hide (And.intro hA2 hb); clear hA1 hA2 hb hI
      go_wp2_with fail
      (try simp only [Exit.inBlock, Exit.then])
      refine bodyPost_ret (results_key rfl _ _ (w.heap.size + 1) _ _ rfl (blk2_store (unhide H3).1 (.string ⟨#[]⟩) (.string ⟨#[]⟩))) rfl ?_
      exact ⟨by unfold ownerA; rw [hres.out]; rfl, below2_store (unhide H3).2 (by omega) _ _⟩
theorem ownerI_at (s : SigR) : ∀ (ks : List KeyR) (i : Nat), (ownerF ks s = none ∧ ownerI ks s i = -1) ∨ ∃ j, ∃ hj : j < ks.length, ownerF ks s = some ks[j] ∧ ownerI ks s i = ((i + j : Nat) : Int)
  | [], i => .inl ⟨rfl, rfl⟩
  | k :: r, i => by
    unfold ownerI ownerF
    rw [List.find?_cons]
    by_cases h : ofKey s k = true
    · rw [if_pos h, h]
      exact .inr ⟨0, by simp, rfl, rfl⟩
    · rw [if_neg h]
      have h' : ofKey s k = false := by simpa using h
      rw [h']
      rcases ownerI_at s r (i + 1) with ⟨h1, h2⟩ | ⟨j, hj, h1, h2⟩
      · exact .inl ⟨h1, h2⟩
      · exact .inr ⟨j + 1, by simp; omega, h1, by rw [h2]; omega⟩
set_option maxRecDepth 100000 in
set_option maxHeartbeats 4000000 in
theorem rowner_any (v : Value) (ks : List KeyR) (s : SigR) (w : World) (hks : ∀ k ∈ ks, k.nm.size ≤ 1099511627776 ∧ k.sc.size ≤ 1099511627776) (hn : ks.length ≤ 1099511627776) (hV : KeysAt w v ks) (hT : RTab w) :
    Calls Tryz.prog 13 #[v, sigV s] w fun e w' => e = .returned (.int .i64 (ownerI ks s 0)) ∧ Below w.heap.size w w' := by
  obtain ⟨A, c, rfl, -⟩ := id hV
  obtain ⟨sn, si, sm⟩ := s
  unfold sigV
  have HKS := hide hks; have HV := hide hV; have HT := hide hT; clear hks hV hT
  go_enter Tryz.func13, Tryz.ntmps13
  go_wp2_with fail
  have hA1 : Blk (w.alloc (.cells #[.string sn, .string si, .string sm] 43)) w.heap.size 43 #[.string sn, .string si, .string sm] := Blk.new _ _ _
  have hA3 : Below w.heap.size w (w.alloc (.cells #[.string sn, .string si, .string sm] 43)) := (Below.refl _ _).alloc (Nat.le_refl _) _
  generalize (w.alloc (.cells #[.string sn, .string si, .string sm] 43)) = w0 at *
  have H0 := hide (And.intro hA1 hA3); clear hA1 hA3
  go_loopw [5] (fun i wr => ∃ k : Nat, k ≤ ks.length ∧ i = .int .i64 k ∧ Hid (ownerI (ks.drop k) ⟨sn, si, sm⟩ k = ownerI ks ⟨sn, si, sm⟩ 0) ∧ Blk wr w.heap.size 43 #[.string sn, .string si, .string sm] ∧ Below w.heap.size w wr) (fun i _ => ks.length - (RowKit.intOf i).toNat)
  case atStart => exact ⟨0, by omega, rfl, Lib.hid rfl, (unhide H0).1, (unhide H0).2⟩
  case round =>
    clear H0
    obtain ⟨k, hk, rfl, hI, hA1, hb⟩ := hrel
    rcases Nat.lt_or_ge k ks.length with hlt | hge
    · obtain ⟨A', c', hvv, hc⟩ := unhide HV
      injection hvv with e1 e2 e3
      subst e1 e3
      obtain ⟨a, rfl, c0, c1⟩ := hc k hlt
      have c0' := (hb.cell (World.block_lt_of_cell? w _ c0)).trans c0
      have c1' := (hb.cell (World.block_lt_of_cell? w _ c1)).trans c1
      have hk2 : (k : Int) < (ks.length : Int) := by omega
      have hkk := unhide HKS _ (List.getElem_mem hlt)
      have hst : Hid (ownerI ks ⟨sn, si, sm⟩ 0 = if ofKey ⟨sn, si, sm⟩ ks[k] = true then (k : Int) else ownerI (ks.drop (k + 1)) ⟨sn, si, sm⟩ (k + 1)) := by
        rw [Hid, ← hI.out, List.drop_eq_getElem_cons hlt]
        rfl
      have hTr : RTab wr := (unhide HT).next hb
      have hlt0 := World.block_lt_of_cell? wr _ c0'
      generalize ks[k] = key at *
      obtain ⟨kn, ksc⟩ := key
      simp only at hkk c0' c1'
      have hadd : (a.add (k * 2)).add 1 = a.add (k * 2 + 1) := Addr.add_add a (k * 2) 1
      have c1'' : wr.cell? ⟨(a.add (k * 2)).block, (a.add (k * 2)).off + 1, none⟩ = some (.string ksc) := by
        have e : (⟨(a.add (k * 2)).block, (a.add (k * 2)).off + 1, none⟩ : Addr) = (a.add (k * 2)).add 1 := rfl
        rw [e, hadd]
        exact c1'
      have hid := rID_any kn ksc wr (by omega) (by omega) hTr.1 hTr.2
      have H1 := hide (And.intro hA1 hb)
      have HC := hide (And.intro c0' hlt0)
      have HID := hide hid
      clear hadd c0 c1 c1' hc hid hA1 hb hTr hI hkk hlt0
      go_wp2_with fail
      clear c0' c1''
      refine (unhide HID).mono ?_
      rintro e w2 ⟨rfl, hb2⟩
      have hS2 := (unhide H1).1.below hb2 (unhide H1).1.lt
      have hb2' := (unhide H1).2.trans (hb2.mono (unhide H1).2.size)
      have k0 : w2.cell? (a.add (k * 2)) = some (.string kn) := (hb2.cell (unhide HC).2).trans (unhide HC).1
      have s0 := hS2.cell 0; have s1 := hS2.cell 1
      simp only [List.getElem?_toArray, List.getElem?_cons_zero, List.getElem?_cons_succ] at s0 s1
      have H2 := hide (And.intro hS2 hb2'); clear hS2 hb2 hb2' HC HID
      cases hno : nameOk kn with
      | false =>
        have hnx : Hid (ownerI (ks.drop (k + 1)) ⟨sn, si, sm⟩ (k + 1) = ownerI ks ⟨sn, si, sm⟩ 0) := by
          rw [Hid, hst.out, if_neg]; unfold ofKey; simp [hno]
        have hiv : idV kn ksc = .tuple #[.string ⟨#[]⟩, .int .i64 203] := by unfold idV; rw [if_neg (by rw [hno]; decide)]
        rw [hiv]
        clear hst hno hiv
        go_wp2_with fail
        go_quiet (fail)
        go_wp2_with fail
        go_roundw
        case rel => exact ⟨k + 1, by omega, by go_num, hnx, (unhide H2).1.drewN _, below_drewN (unhide H2).2 _⟩
        case measure => simp [RowKit.intOf]; omega
      | true =>
        have hiv : idV kn ksc = .tuple #[.string (kidB ⟨kn, ksc⟩), .int .i64 0] := by unfold idV; rw [if_pos hno]; rfl
        rw [hiv]
        by_cases hnm : kn = sn
        · subst hnm
          have hko : ofKey ⟨kn, si, sm⟩ ⟨kn, ksc⟩ = decide (kidB ⟨kn, ksc⟩ = si) := by unfold ofKey; simp [hno]
          rw [hko] at hst
          by_cases hid : kidB ⟨kn, ksc⟩ = si
          · have hres : Hid (ownerI ks ⟨kn, si, sm⟩ 0 = (k : Int)) := by rw [Hid, hst.out, if_pos (by simpa using hid)]
            rw [hid]
            clear hst hid hiv hno hko
            go_wp2_with fail
            go_quiet (fail)
            go_wp2_with fail
            go_ret
            exact ⟨by rw [hres.out]; rfl, below_drewN (unhide H2).2 _⟩
          · have hnx : Hid (ownerI (ks.drop (k + 1)) ⟨kn, si, sm⟩ (k + 1) = ownerI ks ⟨kn, si, sm⟩ 0) := by
              rw [Hid, hst.out, if_neg (by simpa using hid)]
            have hne := toList_ne hid
            clear hst hid hiv hno hko
            generalize kidB ⟨kn, ksc⟩ = kid at *
            go_wp2_with fail
            go_quiet (fail)
            go_wp2_with fail
            go_roundw
            case rel => exact ⟨k + 1, by omega, by go_num, hnx, (unhide H2).1.drewN _, below_drewN (unhide H2).2 _⟩
            case measure => simp [RowKit.intOf]; omega
        · have hnx : Hid (ownerI (ks.drop (k + 1)) ⟨sn, si, sm⟩ (k + 1) = ownerI ks ⟨sn, si, sm⟩ 0) := by
            rw [Hid, hst.out, if_neg]; unfold ofKey; simp [hnm]
          have hne := toList_ne hnm
          clear hst hno hnm hiv
          generalize kidB ⟨kn, ksc⟩ = kid at *
          go_wp2_with fail
          go_quiet (fail)
          go_wp2_with fail
          go_roundw
          case rel => exact ⟨k + 1, by omega, by go_num, hnx, (unhide H2).1.drewN _, below_drewN (unhide H2).2 _⟩
          case measure => simp [RowKit.intOf]; omega
    · have hk2 : ¬ (k : Int) < (ks.length : Int) := by omega
      have hres : Hid (ownerI ks ⟨sn, si, sm⟩ 0 = -1) := by
        rw [Hid, ← hI.out, List.drop_eq_nil_of_le hge]; rfl
      have H3 := hide hb; clear hA1 hb hI
      go_wp2_with fail
      go_ret
      exact ⟨by rw [hres.out]; rfl, unhide H3⟩
end Go.Proofs.YtphoflcilpopgaaGreatDoor

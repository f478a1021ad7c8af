/-
  Several texts in one: CONTRACTS of the law's helpers on keys: keys, kept. | CONTRACTS of note.owner and of the document's: the first known key that a signature is of. | WORDS on an opened note: what Open answers, and the cells in which it is gathered.
-/
import Derived.Test.YtfhaoamlagnpjaaDoorRows
import Derived.Deep.QuietTactic
import Derived.BigQuiet
import Derived.Deep.RegionHeld3
import Derived.Laws.ResultCell
import Derived.Test.YtfhaoamlagnpjaaDoorGNoteAdd1
import Derived.Test.YtfhaoamlagnpjaaDoorGNoteAdd15
import Derived.Test.YtfhaoamlagnpjaaDoorGNoteAdd6
import Derived.Test.YtfhaoamlagnpjaaDoorGNoteAdd9
import Derived.Test.YtfhaoamlagnpjaaDoorGNoteAdd3
import Derived.Test.YtfhaoamlagnpjaaDoorGNoteAdd7
import Derived.Test.YtfhaoamlagnpjaaDoorGNoteAdd12
import Derived.Test.YtfhaoamlagnpjaaDoorGNoteAdd13
set_option linter.unusedVariables false
set_option linter.unusedSimpArgs false
namespace Go.Proofs.YtfhaoamlagnpjaaDoor
open Go.RowKit Go.Lib
def behindK : KeyR := ⟨⟨#[98, 101, 104, 105, 110, 100]⟩, ⟨#[]⟩⟩
theorem KeysAt.at_ {w : World} {A : Option Addr} {m c : Nat} {ks : List KeyR} (h : KeysAt w (.slice A m c) ks) (j : Nat) (hj : j < ks.length) : ∃ a, A = some a ∧ w.cell? (a.add (j * 2)) = some (.string ks[j].nm) ∧ w.cell? ⟨(a.add (j * 2)).block, (a.add (j * 2)).off + 1, none⟩ = some (.string ks[j].sc) := by
  obtain ⟨A', c', hv, hc⟩ := h
  injection hv with e1 e2 e3
  subst e1 e2 e3
  obtain ⟨a, rfl, h1, h2⟩ := hc j hj
  refine ⟨a, rfl, h1, ?_⟩
  have e : (⟨(a.add (j * 2)).block, (a.add (j * 2)).off + 1, none⟩ : Addr) = (a.add (j * 2)).add 1 := rfl
  rw [e, Addr.add_add]
  exact h2
set_option maxRecDepth 100000 in
theorem keys_any (v : Value) (ks : List KeyR) (w : World) (hn : ks.length ≤ 549755813888) (hV : KeysAt w v ks) :
    Calls Tryd.prog 22 #[v] w fun e w' => ∃ v', e = .returned v' ∧ OwnK w' w.heap.size v' (ks ++ [behindK]) ∧ Below w.heap.size w w' := by
  obtain ⟨A, c, rfl, -⟩ := id hV
  have HV := hide hV; clear hV
  go_enter Tryd.func22, Tryd.ntmps22
  go_wp2_with (first | (at_builtin; refine wpList_appK _ rfl _ _ rfl (OwnK.nil _ w.heap.size) rfl (unhide HV) rfl (by simp; omega) (Nat.le_refl _) ?_; intro v1 w1 hO1 hg1 hat1; have H1 := hide (And.intro hO1 hg1); clear hO1 hg1 hat1) | (at_builtin; refine wpList_appK1 w1 rfl _ _ rfl (y := behindK) (unhide H1).1 rfl rfl (by simp; omega) (unhide H1).2.size ?_; intro v2 w2 hO2 hg2 hat2; have H2 := hide (And.intro hO2 hg2); clear hO2 hg2 hat2))
  go_ret
  have hb1 : Below w.heap.size w w1 := (Below.refl _ _).grown (unhide H1).2 (Nat.le_refl _) (fun q hq => by simp [Value.ownBlock] at hq)
  have hO := (unhide H2).1
  rw [List.nil_append] at hO
  exact ⟨_, rfl, hO, (hb1.alloc hb1.size _).grown (unhide H2).2 (by have := hb1.size; simp; omega) (fun q hq => ((unhide H1).1.lt _ hq).1)⟩
set_option maxRecDepth 100000 in
set_option maxHeartbeats 1000000 in
theorem kept_eq (a b : Value) (ks : List KeyR) (w : World) (hn : ks.length ≤ 549755813888) (ha : KeysAt w a (ks ++ [behindK])) (hb : KeysAt w b ks) :
    Calls Tryd.prog 25 #[a, b] w fun e w' => e = .returned (.bool true) ∧ ∃ nd, w' = w.drewN nd := by
  obtain ⟨A, c, rfl, -⟩ := id ha
  obtain ⟨B, d, rfl, -⟩ := id hb
  have hlen : (ks ++ [behindK]).length = ks.length + 1 := by simp
  obtain ⟨p, rfl, p0, p1⟩ := ha.at_ ks.length (by simp)
  have hge : (ks ++ [behindK])[ks.length]'(by simp) = behindK := by simp
  rw [hge] at p0 p1
  have p0' : w.cell? (p.add (ks.length * 2)) = some (.string ⟨#[98, 101, 104, 105, 110, 100]⟩) := p0
  have p1' : w.cell? ⟨(p.add (ks.length * 2)).block, (p.add (ks.length * 2)).off + 1, none⟩ = some (.string ⟨#[]⟩) := p1
  have HA : Hid (∀ j (hj : j < ks.length), w.cell? (p.add (j * 2)) = some (.string ks[j].nm) ∧ w.cell? ⟨(p.add (j * 2)).block, (p.add (j * 2)).off + 1, none⟩ = some (.string ks[j].sc)) := fun j hj => by
    obtain ⟨q, hq, h1, h2⟩ := ha.at_ j (by simp; omega)
    injection hq with hq
    subst hq
    rw [List.getElem_append_left hj] at h1 h2
    exact ⟨h1, h2⟩
  have HB : Hid (∀ j (hj : j < ks.length), ∃ q, B = some q ∧ w.cell? (q.add (j * 2)) = some (.string ks[j].nm) ∧ w.cell? ⟨(q.add (j * 2)).block, (q.add (j * 2)).off + 1, none⟩ = some (.string ks[j].sc)) := fun j hj => hb.at_ j hj
  clear ha hb p0 p1 hge
  rw [hlen]
  clear hlen
  have hi1 : (ks.length : Int) < (ks.length : Int) + 1 := by omega
  have hi2 : (0 : Int) ≤ (ks.length : Int) := by omega
  go_enter Tryd.func25, Tryd.ntmps25
  go_wp2_with fail
  go_loopw [6] (fun i wr => ∃ k : Nat, i = .int .i64 k ∧ k ≤ ks.length ∧ ∃ nd, Hid (wr = w.drewN nd)) (fun i _ => ks.length - (RowKit.intOf i).toNat)
  case atStart => exact ⟨0, rfl, by omega, 0, Lib.hid rfl⟩
  case round =>
    clear p0' p1'
    obtain ⟨k, rfl, hk, nd, hw⟩ := hrel
    have hw' := hw.out
    subst hw'
    rcases Nat.lt_or_ge k ks.length with hlt | hge
    · obtain ⟨c0, c1⟩ := unhide HA k hlt
      obtain ⟨q, rfl, d0, d1⟩ := unhide HB k hlt
      have hk2 : (k : Int) < (ks.length : Int) := by omega
      have hk3 : (k : Int) < (ks.length : Int) + 1 := by omega
      have k0 : (0 : Int) ≤ (k : Int) := by omega
      generalize ks[k] = x at *
      obtain ⟨xn, xs⟩ := x
      simp only at c0 c1 d0 d1
      have c0' : (w.drewN nd).cell? (p.add (k * 2)) = some (.string xn) := c0
      have c1' : (w.drewN nd).cell? ⟨(p.add (k * 2)).block, (p.add (k * 2)).off + 1, none⟩ = some (.string xs) := c1
      have d0' : (w.drewN nd).cell? (q.add (k * 2)) = some (.string xn) := d0
      have d1' : (w.drewN nd).cell? ⟨(q.add (k * 2)).block, (q.add (k * 2)).off + 1, none⟩ = some (.string xs) := d1
      have c2' : (w.drewN nd).cell? ((p.add (k * 2)).add 1) = some (.string xs) := c1
      have d2' : (w.drewN nd).cell? ((q.add (k * 2)).add 1) = some (.string xs) := d1
      have c3' : w.cell? ((p.add (k * 2)).add 1) = some (.string xs) := c1
      have d3' : w.cell? ((q.add (k * 2)).add 1) = some (.string xs) := d1
      have c4' : (w.drewN nd).cell? (p.add (k * 2 + 1)) = some (.string xs) := by rw [← Addr.add_add]; exact c1
      have d4' : (w.drewN nd).cell? (q.add (k * 2 + 1)) = some (.string xs) := by rw [← Addr.add_add]; exact d1
      go_wp2_with fail
      go_quiet (fail)
      go_wp2_with fail
      refine ⟨⟨k + 1, by go_num, by omega, nd + nq, Lib.hid rfl⟩, by simp [RowKit.intOf]; omega⟩
    · go_wp2_with fail
      go_ret
      exact ⟨rfl, nd, rfl⟩
end Go.Proofs.YtfhaoamlagnpjaaDoor

set_option linter.unusedVariables false
set_option linter.unusedSimpArgs false
namespace Go.Proofs.YtfhaoamlagnpjaaDoor
open Go.RowKit Go.Lib
/-- The four bytes of a key. -/
def kidB (k : KeyR) : ByteArray := ⟨(keyIDL k.nm.data.toList k.sc.data.toList).toArray⟩
/-- Is a signature of this key? -/
def ofKey (s : SigR) (k : KeyR) : Bool := nameOk k.nm && decide (k.nm = s.nm) && decide (kidB k = s.id)
def ownerF (ks : List KeyR) (s : SigR) : Option KeyR := ks.find? (ofKey s)
/-- Where it stands. -/
def ownerI : List KeyR → SigR → Nat → Int
  | [], _, _ => -1
  | k :: r, s, i => if ofKey s k = true then (i : Int) else ownerI r s (i + 1)
def ownerA (ks : List KeyR) (s : SigR) : Value := match ownerF ks s with
  | some k => .tuple #[keyV k, .bool true]
  | none => .tuple #[keyV ⟨⟨#[]⟩, ⟨#[]⟩⟩, .bool false]
theorem results_key {fn : Func} {p u : Tmp} (h : fn.results = #[.cell p 27, .tmp u]) (tmps : Array Value) (w : World) (g : Nat) (a b : Value) (hp : tmps.getD p undef = .pointer (some ⟨g, 0, none⟩)) (hB : Blk w g 27 #[a, b]) :
    (results fn tmps).run Tryd.prog w = .ok (.tuple #[.agg #[a, b], tmps.getD u undef]) w := by
  rw [results_cell_tmp h, hp]
  have hl := run_loadVar_row (P := Tryd.prog) w g 27 27 #[a, b] (0, 0) _ hB Tryd.underlying27 rfl (by kernel_rfl)
  simp [asAddr, hl, Result.andThen]
theorem blk2_store {w : World} {g : Nat} {t : TypeId} {a b : Value} (h : Blk w g t #[a, b]) (a' b' : Value) : Blk ((w.setCell ⟨g, 0, none⟩ a').setCell ⟨g, 1, none⟩ b') g t #[a', b'] := (h.set_ 0 a').set_ 1 b'
theorem below2_store {B : Nat} {a w : World} {g : Nat} (h : Below B a w) (hg : B ≤ g) (a' b' : Value) : Below B a ((w.setCell ⟨g, 0, none⟩ a').setCell ⟨g, 1, none⟩ b') := (h.setCell (p := ⟨g, 0, none⟩) hg _).setCell (p := ⟨g, 1, none⟩) hg _
set_option maxRecDepth 100000 in
set_option maxHeartbeats 4000000 in
theorem owner_any (v : Value) (ks : List KeyR) (s : SigR) (w : World) (hks : ∀ k ∈ ks, k.nm.size ≤ 1099511627776 ∧ k.sc.size ≤ 1099511627776) (hn : ks.length ≤ 1099511627776) (hV : KeysAt w v ks) (hT : PTab w) :
    Calls Tryd.prog 67 #[v, sigV s] w fun e w' => e = .returned (ownerA ks s) ∧ Below w.heap.size w w' := by
  obtain ⟨A, c, rfl, -⟩ := id hV
  obtain ⟨sn, si, sm⟩ := s
  unfold sigV
  have HKS := hide hks; have HV := hide hV; have HT := hide hT; clear hks hV hT
  go_enter Tryd.func67, Tryd.ntmps67
  go_wp2_with fail
  have hA1 : Blk ((w.alloc (.cells #[.string sn, .string si, .string sm] 71)).alloc (.cells #[.string ⟨#[]⟩, .string ⟨#[]⟩] 27)) w.heap.size 71 #[.string sn, .string si, .string sm] := (Blk.new _ _ _).alloc _
  have hA2 : Blk ((w.alloc (.cells #[.string sn, .string si, .string sm] 71)).alloc (.cells #[.string ⟨#[]⟩, .string ⟨#[]⟩] 27)) (w.heap.size + 1) 27 #[.string ⟨#[]⟩, .string ⟨#[]⟩] := by
    have h := Blk.new (w.alloc (.cells #[.string sn, .string si, .string sm] 71)) 27 #[.string ⟨#[]⟩, .string ⟨#[]⟩]
    rw [World.size_alloc] at h; exact h
  have hA3 : Below w.heap.size w ((w.alloc (.cells #[.string sn, .string si, .string sm] 71)).alloc (.cells #[.string ⟨#[]⟩, .string ⟨#[]⟩] 27)) := ((Below.refl _ _).alloc (Nat.le_refl _) _).alloc (by simp) _
  generalize ((w.alloc (.cells #[.string sn, .string si, .string sm] 71)).alloc (.cells #[.string ⟨#[]⟩, .string ⟨#[]⟩] 27)) = w0 at *
  have H0 := hide (And.intro hA1 (And.intro hA2 hA3)); clear hA1 hA2 hA3
  go_loopw [10] (fun i wr => ∃ k : Nat, k ≤ ks.length ∧ i = .int .i64 k ∧ Hid (ownerF (ks.drop k) ⟨sn, si, sm⟩ = ownerF ks ⟨sn, si, sm⟩) ∧ Blk wr w.heap.size 71 #[.string sn, .string si, .string sm] ∧ Blk wr (w.heap.size + 1) 27 #[.string ⟨#[]⟩, .string ⟨#[]⟩] ∧ Below w.heap.size w wr) (fun i _ => ks.length - (RowKit.intOf i).toNat)
  case atStart => exact ⟨0, by omega, rfl, Lib.hid rfl, (unhide H0).1, (unhide H0).2.1, (unhide H0).2.2⟩
  case round =>
    clear H0
    obtain ⟨k, hk, rfl, hI, hA1, hA2, hb⟩ := hrel
    rcases Nat.lt_or_ge k ks.length with hlt | hge
    · obtain ⟨A', c', hvv, hc⟩ := unhide HV
      injection hvv with e1 e2 e3
      subst e1 e3
      obtain ⟨a, rfl, c0, c1⟩ := hc k hlt
      have c0' := (hb.cell (World.block_lt_of_cell? w _ c0)).trans c0
      have c1' := (hb.cell (World.block_lt_of_cell? w _ c1)).trans c1
      have hk2 : (k : Int) < (ks.length : Int) := by omega
      have hkk := unhide HKS _ (List.getElem_mem hlt)
      have hst : Hid (ownerF ks ⟨sn, si, sm⟩ = if ofKey ⟨sn, si, sm⟩ ks[k] = true then some ks[k] else ownerF (ks.drop (k + 1)) ⟨sn, si, sm⟩) := by
        rw [Hid, ← hI.out, List.drop_eq_getElem_cons hlt]
        unfold ownerF
        rw [List.find?_cons]
        split <;> simp_all
      have hTr : PTab wr := (unhide HT).next hb
      generalize ks[k] = key at *
      obtain ⟨kn, ksc⟩ := key
      simp only at hkk c0' c1'
      have hadd : (a.add (k * 2)).add 1 = a.add (k * 2 + 1) := Addr.add_add a (k * 2) 1
      have c1'' : wr.cell? ⟨(a.add (k * 2)).block, (a.add (k * 2)).off + 1, none⟩ = some (.string ksc) := by
        have e : (⟨(a.add (k * 2)).block, (a.add (k * 2)).off + 1, none⟩ : Addr) = (a.add (k * 2)).add 1 := rfl
        rw [e, hadd]
        exact c1'
      have hna := fun W => name_any kn W (by simp only [maxLen]; omega)
      have hki := fun W (h : PTab W) => keyID_any kn ksc W (by omega) (by omega) h.1 h.2
      have hz := hA2.lt
      have hK1 := Blk.new wr 27 #[.string kn, .string ksc]
      have hb1 : Below w.heap.size w (wr.alloc (.cells #[.string kn, .string ksc] 27)) := hb.alloc hb.size _
      have H1 := hide (And.intro (hA1.alloc (.cells #[.string kn, .string ksc] 27)) (And.intro (hA2.alloc (.cells #[.string kn, .string ksc] 27)) (And.intro hb1 (And.intro hK1 (hTr.alloc (.cells #[.string kn, .string ksc] 27))))))
      have HNA := hide hna; have HKI := hide hki
      clear hadd c0 c1 c1' hc hna hki hA1 hA2 hK1 hb1 hTr hI hb hkk
      go_wp2_with fail
      clear c0' c1''
      generalize wr.heap.size = g7 at *
      generalize (wr.alloc (.cells #[.string kn, .string ksc] 27)) = w1 at *
      have k0 := (unhide H1).2.2.2.1.cell 0; have k1 := (unhide H1).2.2.2.1.cell 1
      have s0 := (unhide H1).1.cell 0; have s1 := (unhide H1).1.cell 1; have s2 := (unhide H1).1.cell 2
      simp only [List.getElem?_toArray, List.getElem?_cons_zero, List.getElem?_cons_succ] at k0 k1 s0 s1 s2
      cases hno : nameOk kn with
      | false =>
        have hnx : Hid (ownerF (ks.drop (k + 1)) ⟨sn, si, sm⟩ = ownerF ks ⟨sn, si, sm⟩) := by
          rw [Hid, hst.out, if_neg]; unfold ofKey; simp [hno]
        rw [hno] at HNA
        clear hst hno
        go_quiet ((go_at_call 38; exact quiet_left (unhide HNA _)))
        go_wp2_with fail
        go_roundw
        case rel => exact ⟨k + 1, by omega, by go_num, hnx, (unhide H1).1.drewN _, (unhide H1).2.1.drewN _, below_drewN (unhide H1).2.2.1 _⟩
        case measure => simp [RowKit.intOf]; omega
      | true =>
        by_cases hnm : kn = sn
        · subst hnm
          rw [hno] at HNA
          have hko : ofKey ⟨kn, si, sm⟩ ⟨kn, ksc⟩ = decide (kidB ⟨kn, ksc⟩ = si) := by unfold ofKey; simp [hno]
          have hki2 : ∀ W, PTab W → Calls Tryd.prog 39 #[.string kn, .string ksc] W fun e w' => e = .returned (.string (kidB ⟨kn, ksc⟩)) ∧ Below W.heap.size W w' := fun W h => unhide HKI W h
          rw [hko] at hst
          have HK2 := hide hki2; clear hki2 HKI hko hno
          by_cases hid : kidB ⟨kn, ksc⟩ = si
          · have hres : Hid (ownerF ks ⟨kn, si, sm⟩ = some ⟨kn, ksc⟩) := by rw [Hid, hst.out, if_pos (by simpa using hid)]
            rw [hid] at HK2
            clear hst hid
            go_region_held3 (fun W => W.cell? ⟨g7, 0, none⟩ = some (.string kn) ∧ W.cell? ⟨g7, 1, none⟩ = some (.string ksc) ∧ W.cell? ⟨w.heap.size, 0, none⟩ = some (.string kn) ∧ W.cell? ⟨w.heap.size, 1, none⟩ = some (.string si)) (refine ⟨?_, ?_, ?_, ?_⟩ <;> assumption) (first | (go_at_call 38; refine (unhide HNA _).mono ?_; rintro e w2 ⟨rfl, rfl⟩) | (go_at_call 39; refine ((unhide HK2) _ (unhide H1).2.2.2.2.drew).mono ?_; rintro e w3 ⟨rfl, hb3⟩; have hS3 := (unhide H1).1.drew.below hb3 (unhide H1).1.lt; have hK3 := (unhide H1).2.2.2.1.drew.below hb3 (unhide H1).2.2.2.1.lt; have hA3 := (unhide H1).2.1.drew.below hb3 (unhide H1).2.1.lt; have k30 := hK3.cell 0; have k31 := hK3.cell 1; have s30 := hS3.cell 0; have s31 := hS3.cell 1; simp only [List.getElem?_toArray, List.getElem?_cons_zero, List.getElem?_cons_succ] at k30 k31 s30 s31))
            have hb3' : Below w.heap.size w w3 := (unhide H1).2.2.1.drew.trans (hb3.mono (unhide H1).2.2.1.size)
            have a30 := hA3.cell 0; have a31 := hA3.cell 1; have af0 := hA3.frozen 0; have af1 := hA3.frozen 1
            simp only [List.getElem?_toArray, List.getElem?_cons_zero, List.getElem?_cons_succ] at a30 a31
            have H3 := hide (And.intro hA3 hb3'); clear hA3 hb3 hb3' hS3 hK3 s30 s31 k0 k1 s0 s1 s2
            go_wp2_with fail
            (try simp only [Exit.inBlock, Exit.then])
            refine bodyPost_ret (results_key rfl _ _ (w.heap.size + 1) _ _ rfl (blk2_store (unhide H3).1 (.string kn) (.string ksc))) rfl ?_
            exact ⟨by unfold ownerA; rw [hres.out]; rfl, below2_store (unhide H3).2 (by omega) _ _⟩
          · have hnx : Hid (ownerF (ks.drop (k + 1)) ⟨kn, si, sm⟩ = ownerF ks ⟨kn, si, sm⟩) := by
              rw [Hid, hst.out, if_neg (by simpa using hid)]
            have hne := toList_ne hid
            clear hst hid
            generalize kidB ⟨kn, ksc⟩ = kid at *
            go_region_held3 (fun W => W.cell? ⟨g7, 0, none⟩ = some (.string kn) ∧ W.cell? ⟨g7, 1, none⟩ = some (.string ksc) ∧ W.cell? ⟨w.heap.size, 0, none⟩ = some (.string kn) ∧ W.cell? ⟨w.heap.size, 1, none⟩ = some (.string si)) (refine ⟨?_, ?_, ?_, ?_⟩ <;> assumption) (first | (go_at_call 38; refine (unhide HNA _).mono ?_; rintro e w2 ⟨rfl, rfl⟩) | (go_at_call 39; refine ((unhide HK2) _ (unhide H1).2.2.2.2.drew).mono ?_; rintro e w3 ⟨rfl, hb3⟩; have hS3 := (unhide H1).1.drew.below hb3 (unhide H1).1.lt; have hK3 := (unhide H1).2.2.2.1.drew.below hb3 (unhide H1).2.2.2.1.lt; have hA3 := (unhide H1).2.1.drew.below hb3 (unhide H1).2.1.lt; have k30 := hK3.cell 0; have k31 := hK3.cell 1; have s30 := hS3.cell 0; have s31 := hS3.cell 1; simp only [List.getElem?_toArray, List.getElem?_cons_zero, List.getElem?_cons_succ] at k30 k31 s30 s31))
            have hb3' : Below w.heap.size w w3 := (unhide H1).2.2.1.drew.trans (hb3.mono (unhide H1).2.2.1.size)
            have H3 := hide (And.intro hS3 (And.intro hA3 hb3')); clear hA3 hb3 hb3' hS3 hK3 s30 s31 k30 k31 k0 k1 s0 s1 s2
            go_wp2_with fail
            go_roundw
            case rel => exact ⟨k + 1, by omega, by go_num, hnx, (unhide H3).1, (unhide H3).2.1, (unhide H3).2.2⟩
            case measure => simp [RowKit.intOf]; omega
        · have hnx : Hid (ownerF (ks.drop (k + 1)) ⟨sn, si, sm⟩ = ownerF ks ⟨sn, si, sm⟩) := by
            rw [Hid, hst.out, if_neg]; unfold ofKey; simp [hnm]
          have hne := toList_ne hnm
          rw [hno] at HNA
          clear hst hno hnm
          go_quiet ((go_at_call 38; exact quiet_left (unhide HNA _)))
          go_wp2_with fail
          go_roundw
          case rel => exact ⟨k + 1, by omega, by go_num, hnx, (unhide H1).1.drewN _, (unhide H1).2.1.drewN _, below_drewN (unhide H1).2.2.1 _⟩
          case measure => simp [RowKit.intOf]; omega
    · have hk2 : ¬ (k : Int) < (ks.length : Int) := by omega
      have hres : Hid (ownerF ks ⟨sn, si, sm⟩ = none) := by
        rw [Hid, ← hI.out, List.drop_eq_nil_of_le hge]; rfl
      have a30 := hA2.cell 0; have a31 := hA2.cell 1; have af0 := hA2.frozen 0; have af1 := hA2.frozen 1
      simp only [List.getElem?_toArray, List.getElem?_cons_zero, List.getElem?_cons_succ] at a30 a31
      have H3 := hide (And.intro hA2 hb); clear hA1 hA2 hb hI
      go_wp2_with fail
      (try simp only [Exit.inBlock, Exit.then])
      refine bodyPost_ret (results_key rfl _ _ (w.heap.size + 1) _ _ rfl (blk2_store (unhide H3).1 (.string ⟨#[]⟩) (.string ⟨#[]⟩))) rfl ?_
      exact ⟨by unfold ownerA; rw [hres.out]; rfl, below2_store (unhide H3).2 (by omega) _ _⟩
theorem ownerI_at (s : SigR) : ∀ (ks : List KeyR) (i : Nat), (ownerF ks s = none ∧ ownerI ks s i = -1) ∨ ∃ j, ∃ hj : j < ks.length, ownerF ks s = some ks[j] ∧ ownerI ks s i = ((i + j : Nat) : Int)
  | [], i => .inl ⟨rfl, rfl⟩
  | k :: r, i => by
    unfold ownerI ownerF
    rw [List.find?_cons]
    by_cases h : ofKey s k = true
    · rw [if_pos h, h]
      exact .inr ⟨0, by simp, rfl, rfl⟩
    · rw [if_neg h]
      have h' : ofKey s k = false := by simpa using h
      rw [h']
      rcases ownerI_at s r (i + 1) with ⟨h1, h2⟩ | ⟨j, hj, h1, h2⟩
      · exact .inl ⟨h1, h2⟩
      · exact .inr ⟨j + 1, by simp; omega, h1, by rw [h2]; omega⟩
set_option maxRecDepth 100000 in
set_option maxHeartbeats 4000000 in
theorem rowner_any (v : Value) (ks : List KeyR) (s : SigR) (w : World) (hks : ∀ k ∈ ks, k.nm.size ≤ 1099511627776 ∧ k.sc.size ≤ 1099511627776) (hn : ks.length ≤ 1099511627776) (hV : KeysAt w v ks) (hT : RTab w) :
    Calls Tryd.prog 71 #[v, sigV s] w fun e w' => e = .returned (.int .i64 (ownerI ks s 0)) ∧ Below w.heap.size w w' := by
  obtain ⟨A, c, rfl, -⟩ := id hV
  obtain ⟨sn, si, sm⟩ := s
  unfold sigV
  have HKS := hide hks; have HV := hide hV; have HT := hide hT; clear hks hV hT
  go_enter Tryd.func71, Tryd.ntmps71
  go_wp2_with fail
  have hA1 : Blk (w.alloc (.cells #[.string sn, .string si, .string sm] 71)) w.heap.size 71 #[.string sn, .string si, .string sm] := Blk.new _ _ _
  have hA3 : Below w.heap.size w (w.alloc (.cells #[.string sn, .string si, .string sm] 71)) := (Below.refl _ _).alloc (Nat.le_refl _) _
  generalize (w.alloc (.cells #[.string sn, .string si, .string sm] 71)) = w0 at *
  have H0 := hide (And.intro hA1 hA3); clear hA1 hA3
  go_loopw [5] (fun i wr => ∃ k : Nat, k ≤ ks.length ∧ i = .int .i64 k ∧ Hid (ownerI (ks.drop k) ⟨sn, si, sm⟩ k = ownerI ks ⟨sn, si, sm⟩ 0) ∧ Blk wr w.heap.size 71 #[.string sn, .string si, .string sm] ∧ Below w.heap.size w wr) (fun i _ => ks.length - (RowKit.intOf i).toNat)
  case atStart => exact ⟨0, by omega, rfl, Lib.hid rfl, (unhide H0).1, (unhide H0).2⟩
  case round =>
    clear H0
    obtain ⟨k, hk, rfl, hI, hA1, hb⟩ := hrel
    rcases Nat.lt_or_ge k ks.length with hlt | hge
    · obtain ⟨A', c', hvv, hc⟩ := unhide HV
      injection hvv with e1 e2 e3
      subst e1 e3
      obtain ⟨a, rfl, c0, c1⟩ := hc k hlt
      have c0' := (hb.cell (World.block_lt_of_cell? w _ c0)).trans c0
      have c1' := (hb.cell (World.block_lt_of_cell? w _ c1)).trans c1
      have hk2 : (k : Int) < (ks.length : Int) := by omega
      have hkk := unhide HKS _ (List.getElem_mem hlt)
      have hst : Hid (ownerI ks ⟨sn, si, sm⟩ 0 = if ofKey ⟨sn, si, sm⟩ ks[k] = true then (k : Int) else ownerI (ks.drop (k + 1)) ⟨sn, si, sm⟩ (k + 1)) := by
        rw [Hid, ← hI.out, List.drop_eq_getElem_cons hlt]
        rfl
      have hTr : RTab wr := (unhide HT).next hb
      have hlt0 := World.block_lt_of_cell? wr _ c0'
      generalize ks[k] = key at *
      obtain ⟨kn, ksc⟩ := key
      simp only at hkk c0' c1'
      have hadd : (a.add (k * 2)).add 1 = a.add (k * 2 + 1) := Addr.add_add a (k * 2) 1
      have c1'' : wr.cell? ⟨(a.add (k * 2)).block, (a.add (k * 2)).off + 1, none⟩ = some (.string ksc) := by
        have e : (⟨(a.add (k * 2)).block, (a.add (k * 2)).off + 1, none⟩ : Addr) = (a.add (k * 2)).add 1 := rfl
        rw [e, hadd]
        exact c1'
      have hid := rID_any kn ksc wr (by omega) (by omega) hTr.1 hTr.2
      have H1 := hide (And.intro hA1 hb)
      have HC := hide (And.intro c0' hlt0)
      have HID := hide hid
      clear hadd c0 c1 c1' hc hid hA1 hb hTr hI hkk hlt0
      go_wp2_with fail
      clear c0' c1''
      refine (unhide HID).mono ?_
      rintro e w2 ⟨rfl, hb2⟩
      have hS2 := (unhide H1).1.below hb2 (unhide H1).1.lt
      have hb2' := (unhide H1).2.trans (hb2.mono (unhide H1).2.size)
      have k0 : w2.cell? (a.add (k * 2)) = some (.string kn) := (hb2.cell (unhide HC).2).trans (unhide HC).1
      have s0 := hS2.cell 0; have s1 := hS2.cell 1
      simp only [List.getElem?_toArray, List.getElem?_cons_zero, List.getElem?_cons_succ] at s0 s1
      have H2 := hide (And.intro hS2 hb2'); clear hS2 hb2 hb2' HC HID
      cases hno : nameOk kn with
      | false =>
        have hnx : Hid (ownerI (ks.drop (k + 1)) ⟨sn, si, sm⟩ (k + 1) = ownerI ks ⟨sn, si, sm⟩ 0) := by
          rw [Hid, hst.out, if_neg]; unfold ofKey; simp [hno]
        have hiv : idV kn ksc = .tuple #[.string ⟨#[]⟩, .int .i64 203] := by unfold idV; rw [if_neg (by rw [hno]; decide)]
        rw [hiv]
        clear hst hno hiv
        go_wp2_with fail
        go_quiet (fail)
        go_wp2_with fail
        go_roundw
        case rel => exact ⟨k + 1, by omega, by go_num, hnx, (unhide H2).1.drewN _, below_drewN (unhide H2).2 _⟩
        case measure => simp [RowKit.intOf]; omega
      | true =>
        have hiv : idV kn ksc = .tuple #[.string (kidB ⟨kn, ksc⟩), .int .i64 0] := by unfold idV; rw [if_pos hno]; rfl
        rw [hiv]
        by_cases hnm : kn = sn
        · subst hnm
          have hko : ofKey ⟨kn, si, sm⟩ ⟨kn, ksc⟩ = decide (kidB ⟨kn, ksc⟩ = si) := by unfold ofKey; simp [hno]
          rw [hko] at hst
          by_cases hid : kidB ⟨kn, ksc⟩ = si
          · have hres : Hid (ownerI ks ⟨kn, si, sm⟩ 0 = (k : Int)) := by rw [Hid, hst.out, if_pos (by simpa using hid)]
            rw [hid]
            clear hst hid hiv hno hko
            go_wp2_with fail
            go_quiet (fail)
            go_wp2_with fail
            go_ret
            exact ⟨by rw [hres.out]; rfl, below_drewN (unhide H2).2 _⟩
          · have hnx : Hid (ownerI (ks.drop (k + 1)) ⟨kn, si, sm⟩ (k + 1) = ownerI ks ⟨kn, si, sm⟩ 0) := by
              rw [Hid, hst.out, if_neg (by simpa using hid)]
            have hne := toList_ne hid
            clear hst hid hiv hno hko
            generalize kidB ⟨kn, ksc⟩ = kid at *
            go_wp2_with fail
            go_quiet (fail)
            go_wp2_with fail
            go_roundw
            case rel => exact ⟨k + 1, by omega, by go_num, hnx, (unhide H2).1.drewN _, below_drewN (unhide H2).2 _⟩
            case measure => simp [RowKit.intOf]; omega
        · have hnx : Hid (ownerI (ks.drop (k + 1)) ⟨sn, si, sm⟩ (k + 1) = ownerI ks ⟨sn, si, sm⟩ 0) := by
            rw [Hid, hst.out, if_neg]; unfold ofKey; simp [hnm]
          have hne := toList_ne hnm
          clear hst hno hnm hiv
          generalize kidB ⟨kn, ksc⟩ = kid at *
          go_wp2_with fail
          go_quiet (fail)
          go_wp2_with fail
          go_roundw
          case rel => exact ⟨k + 1, by omega, by go_num, hnx, (unhide H2).1.drewN _, below_drewN (unhide H2).2 _⟩
          case measure => simp [RowKit.intOf]; omega
    · have hk2 : ¬ (k : Int) < (ks.length : Int) := by omega
      have hres : Hid (ownerI ks ⟨sn, si, sm⟩ 0 = -1) := by
        rw [Hid, ← hI.out, List.drop_eq_nil_of_le hge]; rfl
      have H3 := hide hb; clear hA1 hb hI
      go_wp2_with fail
      go_ret
      exact ⟨by rw [hres.out]; rfl, unhide H3⟩
end Go.Proofs.YtfhaoamlagnpjaaDoor

set_option linter.unusedVariables false
set_option linter.unusedSimpArgs false
namespace Go.Proofs.YtfhaoamlagnpjaaDoor
open Go.RowKit Go.Lib
/-- The code of a text under a secret. -/
def macB (sc t : ByteArray) : ByteArray := ⟨(macL sc.data.toList t.data.toList).toArray⟩
/-- The signatures one after the other: good ones, others; or the refusal. -/
def openG (t : ByteArray) (ks : List KeyR) : List SigR → List SigR → List SigR → Option (List SigR × List SigR)
  | [], g, r => some (g, r)
  | x :: xs, g, r => match ownerF ks x with
    | none => openG t ks xs g (r ++ [x])
    | some k => if x.mc = macB k.sc t then openG t ks xs (g ++ [x]) r else none
/-- What Open says: the text, the good signatures, the others; or the number of the refusal. -/
def openV (note : ByteArray) (ks : List KeyR) : Except Nat (ByteArray × List SigR × List SigR) :=
  if 65536 < note.size then .error 121 else match readV note with
    | none => .error 200
    | some (t, S) => match openG t ks S [] [] with
      | none => .error 201
      | some (g, r) => if g.length = 0 then .error 202 else .ok (t, g, r)
/-- What Open answers in memory. -/
def OpenR (N : Nat) (note : ByteArray) (ks : List KeyR) (e : Ending) (w' : World) : Prop :=
  match openV note ks with
  | .error n => e = .returned (.tuple #[.agg #[.string ⟨#[]⟩, .slice none 0 0, .slice none 0 0], .int .i64 n])
  | .ok (t, g, r) => ∃ vg vr, e = .returned (.tuple #[.agg #[.string t, vg, vr], .int .i64 0]) ∧ OwnG w' N vg g ∧ OwnG w' N vr r ∧ (∀ k, vg.ownBlock = some k → vr.ownBlock ≠ some k)
theorem OpenR.err {N : Nat} {note : ByteArray} {ks : List KeyR} {w' : World} (n : Nat) (h : openV note ks = .error n) : OpenR N note ks (.returned (.tuple #[.agg #[.string ⟨#[]⟩, .slice none 0 0, .slice none 0 0], .int .i64 n])) w' := by
  unfold OpenR; rw [h]
theorem OpenR.ok {N : Nat} {note : ByteArray} {ks : List KeyR} {w' : World} {t : ByteArray} {g r : List SigR} {vg vr : Value} (h : openV note ks = .ok (t, g, r)) (h1 : OwnG w' N vg g) (h2 : OwnG w' N vr r) (h3 : ∀ k, vg.ownBlock = some k → vr.ownBlock ≠ some k) :
    OpenR N note ks (.returned (.tuple #[.agg #[.string t, vg, vr], .int .i64 0])) w' := by
  unfold OpenR; rw [h]; exact ⟨vg, vr, rfl, h1, h2, h3⟩
/-- The blocks of a call of Open: the result (block N), the opened note under way (block M), the signatures read (S) and gathered. -/
structure OpB (w W : World) (N M : Nat) (rs : List Value) (t : ByteArray) (vg vr vs : Value) (g r S : List SigR) : Prop where
  b0 : Blk W N 53 rs.toArray
  b1 : Blk W M 53 #[.string t, vg, vr]
  og : OwnG W (N + 1) vg g
  or : OwnG W (N + 1) vr r
  os : OwnG W (N + 1) vs S
  gr : ∀ k, vg.ownBlock = some k → vr.ownBlock ≠ some k
  gs : ∀ k, vg.ownBlock = some k → vs.ownBlock ≠ some k
  rS : ∀ k, vr.ownBlock = some k → vs.ownBlock ≠ some k
  below : Below N w W
  lt : N < M
theorem own_ne {W : World} {base M : Nat} {v : Value} {xs : List SigR} {cs : Array Value} (h : OwnG W base v xs) (hB : Blk W M 53 cs) : v.ownBlock ≠ some M := own_blk_ne h hB (by decide)
theorem OwnG.far2 {w : World} {base : Nat} {v : Value} {acc : List SigR} (h : OwnG w base v acc) {p : Addr} (hp : v.ownBlock ≠ some p.block) (u : Value) : OwnG (w.setCell p u) base v acc :=
  World.ownsRow.kept h (row := some p.block) ⟨rfl, rfl, rfl, by simp [World.setCell], fun i _ hne => Below.heap_setCell w p u i (fun e => hne (by rw [e]))⟩ (.inr hp)
theorem OpB.next {w W W' : World} {N M : Nat} {rs : List Value} {t : ByteArray} {vg vr vs : Value} {g r S : List SigR} (h : OpB w W N M rs t vg vr vs g r S) (hb : Below W.heap.size W W') : OpB w W' N M rs t vg vr vs g r S :=
  ⟨h.b0.below hb h.b0.lt, h.b1.below hb h.b1.lt, h.og.below hb, h.or.below hb, h.os.below hb, h.gr, h.gs, h.rS, h.below.trans (hb.mono (Nat.le_of_lt h.b0.lt)), h.lt⟩
theorem OpB.drew {w W : World} {N M : Nat} {rs : List Value} {t : ByteArray} {vg vr vs : Value} {g r S : List SigR} (h : OpB w W N M rs t vg vr vs g r S) : OpB w W.drew N M rs t vg vr vs g r S :=
  ⟨h.b0.drew, h.b1.drew, h.og.drew, h.or.drew, h.os.drew, h.gr, h.gs, h.rS, h.below.drew, h.lt⟩
theorem OpB.drewN {w W : World} {N M : Nat} {rs : List Value} {t : ByteArray} {vg vr vs : Value} {g r S : List SigR} (h : OpB w W N M rs t vg vr vs g r S) (n : Nat) : OpB w (W.drewN n) N M rs t vg vr vs g r S :=
  ⟨h.b0.drewN n, h.b1.drewN n, h.og.drewN n, h.or.drewN n, h.os.drewN n, h.gr, h.gs, h.rS, below_drewN h.below n, h.lt⟩
theorem kept_append {W W' : World} {o : Obj} {base : Nat} {u v : Value} {xs : List SigR} (h : OwnG W base u xs) (hg : (W.alloc o).grownBy W' v.ownBlock) (hne : ∀ k, v.ownBlock = some k → u.ownBlock ≠ some k) : OwnG W' base u xs := by
  refine World.ownsRow.kept (h.alloc o) hg ?_
  cases hv : v.ownBlock with
  | none => cases hu : u.ownBlock <;> simp
  | some k => exact .inr (hne k hv)
theorem new_ne {W : World} {o : Obj} {base : Nat} {u v v' : Value} {xs : List SigR} (h : OwnG W base u xs) (hat : v'.ownBlock = v.ownBlock ∨ v'.ownBlock = some (W.heap.size + 1)) (hne : ∀ k, v.ownBlock = some k → u.ownBlock ≠ some k) : ∀ k, v'.ownBlock = some k → u.ownBlock ≠ some k := by
  intro k hk
  rcases hat with e | e
  · exact hne k (e ▸ hk)
  · rw [e] at hk
    injection hk with hk
    intro e2
    have := (h.lt k e2).2
    omega
theorem sym_ne {u v : Value} (h : ∀ k, u.ownBlock = some k → v.ownBlock ≠ some k) : ∀ k, v.ownBlock = some k → u.ownBlock ≠ some k := fun k h1 h2 => h k h2 h1
theorem blk_kept {W W' : World} {o : Obj} {M : Nat} {cs : Array Value} {v : Value} {base : Nat} {xs : List SigR} (h : Blk W M 53 cs) (hg : (W.alloc o).grownBy W' v.ownBlock) (hv : OwnG W base v xs) : Blk W' M 53 cs :=
  (h.alloc o).grown hg (own_ne hv h).symm
/-- o.Good = append(o.Good, x). -/
theorem OpB.good {w W W' : World} {N M : Nat} {rs : List Value} {t : ByteArray} {vg vr vs vg' : Value} {g r S g' : List SigR} (h : OpB w W N M rs t vg vr vs g r S) {o : Obj} (hg : (W.alloc o).grownBy W' vg.ownBlock) (h' : OwnG W' (N + 1) vg' g') (hat : vg'.ownBlock = vg.ownBlock ∨ vg'.ownBlock = some (W.heap.size + 1)) :
    Blk W' M 53 #[.string t, vg, vr] ∧ OpB w (W'.setCell ⟨M, 1, none⟩ vg') N M rs t vg' vr vs g' r S := by
  have h1 := blk_kept h.b1 hg h.og
  have h0 := blk_kept h.b0 hg h.og
  have hr := kept_append h.or hg h.gr
  have hs := kept_append h.os hg h.gs
  have hb : Below N w W' := (h.below.alloc (Nat.le_of_lt h.b0.lt) o).grown hg (by have := h.b0.lt; simp; omega) (fun q e => by have := (h.og.lt q e).1; omega)
  have hM := h.lt
  exact ⟨h1, ⟨h0.far (by simp; omega) _, h1.set_ 1 _, h'.far2 (own_ne h' h1) _, hr.far2 (own_ne hr h1) _, hs.far2 (own_ne hs h1) _, new_ne (o := o) h.or hat h.gr, new_ne (o := o) h.os hat h.gs, h.rS, hb.setCell (by simp; omega) _, hM⟩⟩
/-- o.Rest = append(o.Rest, x). -/
theorem OpB.rest {w W W' : World} {N M : Nat} {rs : List Value} {t : ByteArray} {vg vr vs vr' : Value} {g r S r' : List SigR} (h : OpB w W N M rs t vg vr vs g r S) {o : Obj} (hg : (W.alloc o).grownBy W' vr.ownBlock) (h' : OwnG W' (N + 1) vr' r') (hat : vr'.ownBlock = vr.ownBlock ∨ vr'.ownBlock = some (W.heap.size + 1)) :
    Blk W' M 53 #[.string t, vg, vr] ∧ OpB w (W'.setCell ⟨M, 2, none⟩ vr') N M rs t vg vr' vs g r' S := by
  have h1 := blk_kept h.b1 hg h.or
  have h0 := blk_kept h.b0 hg h.or
  have hgd := kept_append h.og hg (sym_ne h.gr)
  have hs := kept_append h.os hg h.rS
  have hb : Below N w W' := (h.below.alloc (Nat.le_of_lt h.b0.lt) o).grown hg (by have := h.b0.lt; simp; omega) (fun q e => by have := (h.or.lt q e).1; omega)
  have hM := h.lt
  exact ⟨h1, ⟨h0.far (by simp; omega) _, h1.set_ 2 _, hgd.far2 (own_ne hgd h1) _, h'.far2 (own_ne h' h1) _, hs.far2 (own_ne hs h1) _, sym_ne (new_ne (o := o) h.og hat (sym_ne h.gr)), h.gs, new_ne (o := o) h.os hat h.rS, hb.setCell (by simp; omega) _, hM⟩⟩
theorem results_opened {fn : Func} {p u : Tmp} (h : fn.results = #[.cell p 53, .tmp u]) (tmps : Array Value) (w : World) (g : Nat) (a b c : Value) (hp : tmps.getD p undef = .pointer (some ⟨g, 0, none⟩)) (hB : Blk w g 53 #[a, b, c]) :
    (results fn tmps).run Tryd.prog w = .ok (.tuple #[.agg #[a, b, c], tmps.getD u undef]) w := by
  rw [results_cell_tmp h, hp]
  have hl := run_loadVar_row (P := Tryd.prog) w g 53 53 #[a, b, c] (0, 0) _ hB Tryd.underlying53 rfl (by kernel_rfl)
  simp [asAddr, hl, Result.andThen]
/-- append(v, x), x one signature in a new block of its own, whose number is known. -/
theorem wpList_appG1_at {ops : Array Oper} {rest : List Oper} {o : Oper} {a : Act} {Q : Exit → Act → World → Prop} (w : World) (gx : Nat) (hw : w.heap.size = gx) (hgd : o.guard = none) (s x : Operand)
    (ho : o.op = .call { callee := .builtin .append, args := #[s, x], argTypes := #[51, 51] })
    {base : Nat} {v : Value} {xs : List SigR} (hown : OwnG w base v xs) (hs : a.eval s = v) {y : SigR} (hx : a.eval x = .slice (some ⟨gx, 0, none⟩) 1 1)
    (h47 : xs.length + 1 ≤ 1099511627776) (hbase : base ≤ gx)
    (h : ∀ v' w', OwnG w' base v' (xs ++ [y]) → (w.alloc (.cells #[.string y.nm, .string y.id, .string y.mc] 71)).grownBy w' v.ownBlock → (v'.ownBlock = v.ownBlock ∨ v'.ownBlock = some (w.heap.size + 1)) → wpList Tryd.prog ops Q rest (a.put o.dst v') w') :
    wpList Tryd.prog ops Q (o :: rest) a (w.alloc (.cells #[.string y.nm, .string y.id, .string y.mc] 71)) := by
  subst hw
  exact wpList_appG1 w hgd s x ho hown hs hx h47 hbase h
theorem step_appG1 {ops : Array Oper} {o : Oper} {a : Act} {K : Act → World → Prop} {Q : Exit → Act → World → Prop} {E : Prop} (w : World) (gx : Nat) (hw : w.heap.size = gx) (hgd : o.guard = none) (s x : Operand)
    (ho : o.op = .call { callee := .builtin .append, args := #[s, x], argTypes := #[51, 51] })
    {base : Nat} {v : Value} {xs : List SigR} (hown : OwnG w base v xs) (hs : a.eval s = v) {y : SigR} (hx : a.eval x = .slice (some ⟨gx, 0, none⟩) 1 1)
    (h47 : xs.length + 1 ≤ 1099511627776) (hbase : base ≤ gx)
    (h : ∀ v' w', OwnG w' base v' (xs ++ [y]) → (w.alloc (.cells #[.string y.nm, .string y.id, .string y.mc] 71)).grownBy w' v.ownBlock → (v'.ownBlock = v.ownBlock ∨ v'.ownBlock = some (w.heap.size + 1)) → K (a.put o.dst v') w') :
    if Region.wanted o (yielded ops a.tmps) = true then Oper.wp Tryd.prog o a (w.alloc (.cells #[.string y.nm, .string y.id, .string y.mc] 71)) K Q else E := by
  subst hw
  obtain ⟨i, hi, hz, hs1, hb1⟩ := info_parts sigInfo
  have hrd : Reads (w.alloc (.cells #[.string y.nm, .string y.id, .string y.mc] 71)) (w.heap.size + 1) 3 (some ⟨w.heap.size, 0, none⟩) 1 y.cs := by
    refine ⟨rfl, fun _ => ⟨_, rfl, Nat.lt_succ_self _, fun j u hu => ?_⟩⟩
    have hadd : (⟨w.heap.size, 0, none⟩ : Addr).add j = ⟨w.heap.size, j, none⟩ := by unfold Addr.add; split <;> simp_all
    rw [hadd, (Blk.new w 71 _).cell j, ← hu]
    simp [SigR.cs]
  refine step_append_any (w := w.alloc _) hgd s x 51 ho base 71 i _ 3 48 Tryd.underlying51 hi hz hs1 hb1 rfl (by decide) v xs.length (sigCells xs) hs (hown.alloc _) (w.heap.size + 1) _ 1 1 y.cs hx hrd ?_ ?_ ?_ (by simp; omega) ?_
  · intro u hu
    simp [SigR.cs] at hu
    rcases hu with rfl | rfl | rfl <;> rfl
  · simp only [maxLen]; omega
  · omega
  · intro v' w' h1 h2 h3
    refine h v' w' ?_ h2 (by simpa using h3)
    unfold OwnG
    rw [List.length_append]
    have e : sigCells (xs ++ [y]) = sigCells xs ++ y.cs := by unfold sigCells; rw [List.flatMap_append]; simp
    rw [e]
    exact h1
theorem sigP_ok {l : ByteArray} {x : SigR} (h : sigP l = some x) : SigOk x := by
  unfold sigP at h
  split at h
  · split at h
    · unfold sigOf2 at h
      split at h
      · rename_i hn
        split at h
        · rename_i b hb
          split at h
          · rename_i h36
            injection h with h
            subst h
            exact ⟨nameOk_size hn, by rw [ByteArray.size_extract]; omega, by rw [ByteArray.size_extract]; omega⟩
          · cases h
        · cases h
      · cases h
    · cases h
  · cases h
theorem rdGo_ok (note : ByteArray) : ∀ (ls : List (Nat × ByteArray)) (acc : List SigR) (t : ByteArray) (S : List SigR), (∀ x ∈ acc, SigOk x) → acc.length ≤ 16 → rdGo note ls acc = some (t, S) →
    (∀ x ∈ S, SigOk x) ∧ 1 ≤ S.length ∧ S.length ≤ 16 ∧ goesV t = true ∧ t.size ≤ note.size
  | [], acc, t, S, _, _, h => by simp [rdGo] at h
  | (a, l) :: r, acc, t, S, h1, h2, h => by
    rw [rdGo] at h
    split at h
    · split at h
      · rename_i hc
        simp only [Option.some.injEq, Prod.mk.injEq] at h
        obtain ⟨rfl, rfl⟩ := h
        refine ⟨fun x hx => h1 x (List.mem_reverse.1 hx), by rw [List.length_reverse]; omega, by rw [List.length_reverse]; omega, hc.1, by rw [ByteArray.size_extract]; omega⟩
      · cases h
    · split at h
      · cases h
      · rename_i x hx
        split at h
        · cases h
        · rename_i hc
          refine rdGo_ok note r (acc ++ [x]) t S (fun y hy => ?_) (by simp; omega) h
          rcases List.mem_append.1 hy with hy | hy
          · exact h1 y hy
          · simp at hy; subst hy; exact sigP_ok hx
theorem readV_ok {note t : ByteArray} {S : List SigR} (h : readV note = some (t, S)) : (∀ x ∈ S, SigOk x) ∧ 1 ≤ S.length ∧ S.length ≤ 16 ∧ goesV t = true ∧ t.size ≤ note.size := by
  unfold readV at h
  split at h
  · exact rdGo_ok note _ [] t S (by simp) (by simp) h
  · cases h
theorem macB_size (sc t : ByteArray) : (macB sc t).size = 32 := by
  show (macL sc.data.toList t.data.toList).toArray.size = 32
  rw [List.size_toArray]; exact macL_length _ _
theorem openG_step {t : ByteArray} {ks : List KeyR} {S g r : List SigR} {k : Nat} (hk : k < S.length) : openG t ks (S.drop k) g r = match ownerF ks S[k] with
    | none => openG t ks (S.drop (k + 1)) g (r ++ [S[k]])
    | some y => if S[k].mc = macB y.sc t then openG t ks (S.drop (k + 1)) (g ++ [S[k]]) r else none := by
  rw [List.drop_eq_getElem_cons hk, openG]
theorem openV_read {note t : ByteArray} {ks : List KeyR} {S : List SigR} (h6 : note.size ≤ 65536) (h : readV note = some (t, S)) : openV note ks = match openG t ks S [] [] with
      | none => .error 201
      | some (g, r) => if g.length = 0 then .error 202 else .ok (t, g, r) := by
  unfold openV; rw [if_neg (by omega), h]
end Go.Proofs.YtfhaoamlagnpjaaDoor

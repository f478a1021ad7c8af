/-
  Several texts in one: CONTRACT: the document's sig: what a signature's line says. | CONTRACTS of package text: a text is parted, and parted into lines. | CONTRACTS of the document's answer for text: a text is parted into lines, and a number read.
-/
import Derived.Test.YtfhaoamlagnpjaaDoorRows
import Derived.Deep.QuietTactic
import Derived.BigQuiet
import Derived.StillTailTactics
import Derived.Deep.RegionHeld3
import Derived.Test.YtfhaoamlagnpjaaDoorGNoteAdd1
import Derived.Test.YtfhaoamlagnpjaaDoorGNoteAdd6
import Derived.Test.YtfhaoamlagnpjaaDoorGNoteAdd13
import Derived.Test.YtfhaoamlagnpjaaDoorGNoteAdd11
import Derived.Test.YtfhaoamlagnpjaaDoorGNoteAdd2
import Derived.Test.YtfhaoamlagnpjaaDoorGNoteAdd8
import Derived.Test.YtfhaoamlagnpjaaDoorGNoteAdd3
set_option linter.unusedVariables false
set_option linter.unusedSimpArgs false
namespace Go.Proofs.YtfhaoamlagnpjaaDoor
open Go.RowKit Go.Lib
theorem occ_one (r : List UInt8) (c : UInt8) (i : Nat) (hi : i < r.length) : occAt r [c] i = (c == r[i]) := by
  unfold occAt
  rw [List.drop_eq_getElem_cons hi]
  simp [List.isPrefixOf]
theorem cut_at (r : List UInt8) (k : Nat) (hk : k < r.length) (h : r[k] = 32) (hn : ∀ j (hj : j < r.length), j < k → r[j] ≠ 32) : Lib.cut r [32] = (r.take k, r.drop (k + 1), true) := by
  have hi : Lib.index r [32] = (k : Int) := Lib.index_first (by omega) (by rw [occ_one r 32 k hk, h]; rfl) (fun j hj => by rw [occ_one r 32 j (by omega)]; have := hn j (by omega) hj; simp; exact fun e => this e.symm)
  unfold Lib.cut
  rw [hi, if_pos (by omega)]
  simp
theorem cut_no (r : List UInt8) (hn : ∀ j (hj : j < r.length), r[j] ≠ 32) : Lib.cut r [32] = (r, [], false) := by
  have hi : Lib.index r [32] = -1 := Lib.index_none (fun j hj => by
    rcases Nat.lt_or_ge j r.length with h | h
    · rw [occ_one r 32 j h]; have := hn j h; simp; exact fun e => this e.symm
    · unfold occAt; rw [List.drop_eq_nil_of_le h]; rfl)
  unfold Lib.cut
  rw [hi, if_neg (by omega)]
theorem pre_iff (l : ByteArray) (h : 4 ≤ l.size) : l.extract 0 4 = (⟨#[226, 128, 148, 32]⟩ : ByteArray) ↔ hasPrefix l.data.toList [226, 128, 148, 32] = true := by
  have hll : l.data.toList.length = l.size := Array.length_toList
  have he : (l.extract 0 4).data.toList = l.data.toList.take 4 := by
    rw [ByteArray.data_extract, Array.toList_extract, List.extract_eq_take_drop]; simp
  unfold hasPrefix
  rw [List.isPrefixOf_iff_prefix, List.prefix_iff_eq_take]
  constructor
  · intro e
    rw [e] at he
    exact he
  · intro e
    refine ByteArray.ext (Array.toList_inj.1 ?_)
    rw [he]
    exact e.symm
theorem pre_short (l : ByteArray) (h : l.size < 4) : hasPrefix l.data.toList [226, 128, 148, 32] = false := by
  have hll : l.data.toList.length = l.size := Array.length_toList
  unfold hasPrefix
  rw [Bool.eq_false_iff]
  intro e
  have := (List.isPrefixOf_iff_prefix.1 e).length_le
  simp at this
  omega
set_option maxRecDepth 100000 in
set_option maxHeartbeats 4000000 in
theorem rsig_any (l : ByteArray) (w : World) (hs : l.size ≤ 1048576) :
    Calls Tryd.prog 97 #[.string l] w fun e w' => e = .returned (sigA l) ∧ Below w.heap.size w w' := by
  have hll : l.data.toList.length = l.size := Array.length_toList
  have hB0 : Blk (w.alloc (.cells #[.string ⟨#[]⟩, .string ⟨#[]⟩, .string ⟨#[]⟩] 71)) w.heap.size 71 #[.string ⟨#[]⟩, .string ⟨#[]⟩, .string ⟨#[]⟩] := Blk.new w _ _
  have hb0 : Below w.heap.size w (w.alloc (.cells #[.string ⟨#[]⟩, .string ⟨#[]⟩, .string ⟨#[]⟩] 71)) := (Below.refl _ _).alloc (Nat.le_refl _) _
  generalize hw0 : (w.alloc (.cells #[.string ⟨#[]⟩, .string ⟨#[]⟩, .string ⟨#[]⟩] 71)) = w0 at hB0 hb0
  have HW0 := Lib.hid hw0; clear hw0
  have hB3 := blk3_store hB0 (.string ⟨#[]⟩) (.string ⟨#[]⟩) (.string ⟨#[]⟩)
  have hb3 := below3_store hb0 (Nat.le_refl w.heap.size) (.string ⟨#[]⟩) (.string ⟨#[]⟩) (.string ⟨#[]⟩)
  have H0 := hide (And.intro hB0 (And.intro hb0 (And.intro hB3 hb3))); clear hB0 hb0 hB3 hb3
  have r0 := (unhide H0).1.cell 0; have r1 := (unhide H0).1.cell 1; have r2 := (unhide H0).1.cell 2; have f0 := (unhide H0).1.frozen 0; have f1 := (unhide H0).1.frozen 1; have f2 := (unhide H0).1.frozen 2
  simp only [List.getElem?_toArray, List.getElem?_cons_zero, List.getElem?_cons_succ] at r0 r1 r2
  rcases Nat.lt_or_ge l.size 4 with h4 | h4
  · have hpf := pre_short l h4
    have hsp' : Hid (sigA l = .tuple #[sigV noSig, .bool false]) := sigA_none (by unfold sigP; rw [hpf]; rfl)
    have h4' : (l.size : Int) < 4 := by omega
    go_enter Tryd.func97, Tryd.ntmps97
    go_wp2_with fail
    rw [HW0.out]
    (try simp only [Exit.inBlock, Exit.then])
    refine bodyPost_ret (results_sig rfl _ _ w.heap.size _ _ _ rfl (unhide H0).1) rfl ?_
    exact ⟨by rw [hsp'.out]; rfl, (unhide H0).2.1⟩
  · have h4' : ¬ (l.size : Int) < 4 := by omega
    have i4 : (4 : Int) ≤ (l.size : Int) := by omega
    by_cases hd : l.extract 0 4 = (⟨#[226, 128, 148, 32]⟩ : ByteArray)
    · have hpf := (pre_iff l h4).1 hd
      have hdd : (!(l.extract 0 4).toList == (⟨#[226, 128, 148, 32]⟩ : ByteArray).toList) = false := by rw [hd, beq_self_eq_true]; rfl
      go_enter Tryd.func97, Tryd.ntmps97
      go_wp2_with fail
      rw [HW0.out]
      have hsp : Hid (sigP l = if (Lib.cut (l.data.toList.drop 4) [32]).2.2 = true then sigOf2 ⟨(Lib.cut (l.data.toList.drop 4) [32]).1.toArray⟩ ⟨(Lib.cut (l.data.toList.drop 4) [32]).2.1.toArray⟩ else none) := by unfold sigP; rw [Hid, if_pos hpf]
      have hre : (l.extract 4 l.size).data.toList = l.data.toList.drop 4 := by
        rw [ByteArray.data_extract, Array.toList_extract, List.extract_eq_take_drop, List.take_of_length_le]
        rw [List.length_drop]; omega
      rw [← hre] at hsp
      have hrz : (l.extract 4 l.size).size ≤ l.size := by rw [ByteArray.size_extract]; omega
      generalize l.extract 4 l.size = r at *
      have hrl : r.data.toList.length = r.size := Array.length_toList
      have HSP := hide hsp; clear hsp hre hdd hd hpf i4 h4'
      go_loopw [4] (fun i wr => ∃ k : Nat, i = .int .i64 k ∧ k ≤ r.size ∧ Hid (wr = w0) ∧ Hid (∀ j (hj : j < r.data.toList.length), j < k → r.data.toList[j] ≠ 32)) (fun i _ => r.size - (RowKit.intOf i).toNat)
      case atStart => exact ⟨0, rfl, by omega, Lib.hid rfl, Lib.hid (fun j _ h => by omega)⟩
      case round =>
        obtain ⟨k, rfl, hk, hw, hne⟩ := hrel
        have hw' := hw.out
        subst hw'
        rcases Nat.lt_or_ge k r.size with hlt | hge
        · have hb : r.data.toList[k]'(by omega) = r[k] := rfl
          by_cases h32 : r[k] = 32
          · have hct := cut_at r.data.toList k (by omega) (by rw [hb]; exact h32) (fun j hj h => hne.out j hj h)
            have hnm : (⟨(r.data.toList.take k).toArray⟩ : ByteArray) = r.extract 0 k := by
              refine ByteArray.ext (Array.toList_inj.1 ?_)
              rw [ByteArray.data_extract, Array.toList_extract, List.extract_eq_take_drop]; simp
            have hcd : (⟨(r.data.toList.drop (k + 1)).toArray⟩ : ByteArray) = r.extract (k + 1) r.size := by
              refine ByteArray.ext (Array.toList_inj.1 ?_)
              rw [ByteArray.data_extract, Array.toList_extract, List.extract_eq_take_drop, List.take_of_length_le]
              rw [List.length_drop]; omega
            have hsp2 : Hid (sigP l = sigOf2 (r.extract 0 k) (r.extract (k + 1) r.size)) := by rw [Hid, unhide HSP, hct]; show sigOf2 ⟨(r.data.toList.take k).toArray⟩ ⟨(r.data.toList.drop (k + 1)).toArray⟩ = _; rw [hnm, hcd]
            have hz1 : (r.extract 0 k).size ≤ l.size := by rw [ByteArray.size_extract]; omega
            have hz2 : (r.extract (k + 1) r.size).size ≤ l.size := by rw [ByteArray.size_extract]; omega
            have hna := fun W => rname_any (r.extract 0 k) W (by simp only [maxLen]; omega)
            have hub := fun W => runb_any (r.extract (k + 1) r.size) W (by omega)
            have HN := hide (And.intro hna hub); clear hna hub hct hnm hcd hne
            have i1 : (k : Int) < (r.size : Int) := by omega
            have i2 : (k : Int) + 1 ≤ (r.size : Int) := by omega
            have h32' : ((r[k].toNat : Int) == 32) = true := by rw [h32]; rfl
            go_wp2_with fail
            refine ((unhide HN).1 _).mono ?_
            rintro e w1 ⟨rfl, rfl⟩
            have hub := (unhide HN).2 wr
            clear r0 r1 r2 f0 f1 f2
            cases hv : unb64V (r.extract (k + 1) r.size) with
            | none =>
              rw [unbA_none hv] at hub
              have hsp' : Hid (sigA l = .tuple #[sigV noSig, .bool false]) := sigA_none (by rw [hsp2.out]; unfold sigOf2; rw [hv]; split <;> rfl)
              have HU := hide hub; clear hub
              obtain ⟨nb, hnb⟩ : ∃ nb, nameOk (r.extract 0 k) = nb := ⟨_, rfl⟩
              rw [hnb]
              go_wp2_with fail
              refine (unhide HU).mono ?_
              rintro e w3 ⟨rfl, hb3⟩
              have hB3 := (unhide H0).1.below hb3 (unhide H0).1.lt
              have hb3' := (unhide H0).2.1.trans (hb3.mono (unhide H0).2.1.size)
              have r0 := hB3.cell 0; have r1 := hB3.cell 1; have r2 := hB3.cell 2; have f0 := hB3.frozen 0; have f1 := hB3.frozen 1; have f2 := hB3.frozen 2
              simp only [List.getElem?_toArray, List.getElem?_cons_zero, List.getElem?_cons_succ] at r0 r1 r2
              have H3 := hide (And.intro (blk3_store hB3 (.string ⟨#[]⟩) (.string ⟨#[]⟩) (.string ⟨#[]⟩)) (below3_store hb3' (Nat.le_refl w.heap.size) (.string ⟨#[]⟩) (.string ⟨#[]⟩) (.string ⟨#[]⟩)))
              clear hB3 hb3 hb3' hnb
              cases nb with
              | true =>
                go_wp2_with fail
                (try simp only [Exit.inBlock, Exit.then])
                refine bodyPost_ret (results_sig rfl _ _ w.heap.size _ _ _ rfl (unhide H3).1) rfl ?_
                exact ⟨by rw [hsp'.out]; rfl, (unhide H3).2⟩
              | false =>
                go_wp2_with fail
                (try simp only [Exit.inBlock, Exit.then])
                refine bodyPost_ret (results_sig rfl _ _ w.heap.size _ _ _ rfl (unhide H3).1) rfl ?_
                exact ⟨by rw [hsp'.out]; rfl, (unhide H3).2⟩
            | some b =>
              rw [unbA_some hv] at hub
              have HU := hide hub; clear hub
              by_cases hno : nameOk (r.extract 0 k) = true
              · rw [hno]
                go_wp2_with fail
                refine (unhide HU).mono ?_
                rintro e w3 ⟨rfl, hb3⟩
                have hB3 := (unhide H0).1.below hb3 (unhide H0).1.lt
                have hb3' := (unhide H0).2.1.trans (hb3.mono (unhide H0).2.1.size)
                have r0 := hB3.cell 0; have r1 := hB3.cell 1; have r2 := hB3.cell 2; have f0 := hB3.frozen 0; have f1 := hB3.frozen 1; have f2 := hB3.frozen 2
                simp only [List.getElem?_toArray, List.getElem?_cons_zero, List.getElem?_cons_succ] at r0 r1 r2
                by_cases h36 : b.size = 36
                · have hsp' : Hid (sigA l = .tuple #[sigV ⟨r.extract 0 k, b.extract 0 4, b.extract 4 36⟩, .bool true]) := sigA_some (by rw [hsp2.out]; unfold sigOf2; rw [if_pos hno, hv]; show (if b.size = 36 then _ else _) = _; rw [if_pos h36])
                  have H3 := hide (And.intro (blk3_store hB3 (.string (r.extract 0 k)) (.string (b.extract 0 4)) (.string (b.extract 4 36))) (below3_store hb3' (Nat.le_refl w.heap.size) (.string (r.extract 0 k)) (.string (b.extract 0 4)) (.string (b.extract 4 36))))
                  clear hB3 hb3 hb3'
                  have h36' : ((b.size : Int) == 36) = true := by rw [beq_iff_eq]; omega
                  have i1 : (4 : Int) ≤ (b.size : Int) := by omega
                  go_wp2_with fail
                  go_region
                  go_wp2_with fail
                  (try simp only [Exit.inBlock, Exit.then])
                  refine bodyPost_ret (results_sig rfl _ _ w.heap.size _ _ _ rfl (unhide H3).1.drew) rfl ?_
                  exact ⟨by rw [hsp'.out]; rfl, (unhide H3).2.drew⟩
                · have hsp' : Hid (sigA l = .tuple #[sigV noSig, .bool false]) := sigA_none (by rw [hsp2.out]; unfold sigOf2; rw [if_pos hno, hv]; show (if b.size = 36 then _ else _) = _; rw [if_neg h36])
                  have h36' : ((b.size : Int) == 36) = false := by rw [beq_eq_false_iff_ne]; omega
                  have H3 := hide (And.intro (blk3_store hB3 (.string ⟨#[]⟩) (.string ⟨#[]⟩) (.string ⟨#[]⟩)) (below3_store hb3' (Nat.le_refl w.heap.size) (.string ⟨#[]⟩) (.string ⟨#[]⟩) (.string ⟨#[]⟩)))
                  clear hB3 hb3 hb3'
                  go_wp2_with fail
                  (try simp only [Exit.inBlock, Exit.then])
                  refine bodyPost_ret (results_sig rfl _ _ w.heap.size _ _ _ rfl (unhide H3).1) rfl ?_
                  exact ⟨by rw [hsp'.out]; rfl, (unhide H3).2⟩
              · have hno' : nameOk (r.extract 0 k) = false := by simpa using hno
                have hsp' : Hid (sigA l = .tuple #[sigV noSig, .bool false]) := sigA_none (by rw [hsp2.out]; unfold sigOf2; rw [if_neg hno])
                rw [hno']
                go_wp2_with fail
                refine (unhide HU).mono ?_
                rintro e w3 ⟨rfl, hb3⟩
                have hB3 := (unhide H0).1.below hb3 (unhide H0).1.lt
                have hb3' := (unhide H0).2.1.trans (hb3.mono (unhide H0).2.1.size)
                have r0 := hB3.cell 0; have r1 := hB3.cell 1; have r2 := hB3.cell 2; have f0 := hB3.frozen 0; have f1 := hB3.frozen 1; have f2 := hB3.frozen 2
                simp only [List.getElem?_toArray, List.getElem?_cons_zero, List.getElem?_cons_succ] at r0 r1 r2
                have H3 := hide (And.intro (blk3_store hB3 (.string ⟨#[]⟩) (.string ⟨#[]⟩) (.string ⟨#[]⟩)) (below3_store hb3' (Nat.le_refl w.heap.size) (.string ⟨#[]⟩) (.string ⟨#[]⟩) (.string ⟨#[]⟩)))
                clear hB3 hb3 hb3'
                go_wp2_with fail
                (try simp only [Exit.inBlock, Exit.then])
                refine bodyPost_ret (results_sig rfl _ _ w.heap.size _ _ _ rfl (unhide H3).1) rfl ?_
                exact ⟨by rw [hsp'.out]; rfl, (unhide H3).2⟩
          · have hne' : Hid (∀ j (hj : j < r.data.toList.length), j < k + 1 → r.data.toList[j] ≠ 32) := fun j hj h => by
              rcases Nat.lt_or_ge j k with h' | h'
              · exact hne.out j hj h'
              · obtain rfl : j = k := by omega
                rw [hb]; exact h32
            clear hne
            have h32' : ((r[k].toNat : Int) == 32) = false := by
              rw [beq_eq_false_iff_ne]
              intro e
              exact h32 (UInt8.toNat_inj.1 (by have : r[k].toNat = 32 := by omega
                                               rw [this]; rfl))
            go_wp2_with fail
            refine ⟨⟨k + 1, by go_num, by omega, Lib.hid trivial, hne'⟩, by simp [RowKit.intOf]; omega⟩
        · have hct := cut_no r.data.toList (fun j hj => hne.out j hj (by omega))
          have hsp' : Hid (sigA l = .tuple #[sigV noSig, .bool false]) := sigA_none (by rw [unhide HSP, hct]; rfl)
          clear hct hne
          go_wp2_with fail
          (try simp only [Exit.inBlock, Exit.then])
          refine bodyPost_ret (results_sig rfl _ _ w.heap.size _ _ _ rfl (unhide H0).2.2.1) rfl ?_
          exact ⟨by rw [hsp'.out]; rfl, (unhide H0).2.2.2⟩
    · have hpf : hasPrefix l.data.toList [226, 128, 148, 32] = false := by rw [Bool.eq_false_iff]; exact fun e => hd ((pre_iff l h4).2 e)
      have hsp' : Hid (sigA l = .tuple #[sigV noSig, .bool false]) := sigA_none (by unfold sigP; rw [hpf]; rfl)
      have hdd : (!(l.extract 0 4).toList == [226, 128, 148, 32]) = true := by
        have e : (⟨#[226, 128, 148, 32]⟩ : ByteArray).toList = [226, 128, 148, 32] := by kernel_rfl
        rw [← e, toList_ne hd]; rfl
      go_enter Tryd.func97, Tryd.ntmps97
      go_wp2_with fail
      rw [HW0.out]
      (try simp only [Exit.inBlock, Exit.then])
      refine bodyPost_ret (results_sig rfl _ _ w.heap.size _ _ _ rfl (unhide H0).1) rfl ?_
      exact ⟨by rw [hsp'.out]; rfl, (unhide H0).2.1⟩
end Go.Proofs.YtfhaoamlagnpjaaDoor

set_option linter.unusedVariables false
set_option linter.unusedSimpArgs false
namespace Go.Proofs.YtfhaoamlagnpjaaDoor
open Go.RowKit Go.Lib
theorem ext_seg (s : ByteArray) (a b : Nat) (hab : a ≤ b) (hb : b ≤ s.size) : s.extract a b = bsL (segL s.data.toList a b) := by
  apply ByteArray.ext
  apply Array.ext'
  rw [bytes_extract _ _ _ hb]
  rfl
set_option maxRecDepth 100000 in
set_option maxHeartbeats 1000000 in
theorem parted_any (s : ByteArray) (c : UInt8) (w : World) (hs : s.size ≤ 1099511627776) :
    Calls Tryd.prog 81 #[.string s, .int .u8 (c.toNat : Int)] w fun e w' => ∃ v, e = .returned v ∧ OwnT w' w.heap.size v ((splL c s.data.toList).map bsL) ∧ Below w.heap.size w w' := by
  have hll : s.data.toList.length = s.size := Array.length_toList
  have hcl := c.toNat_lt
  have hpl := splL_length c s.data.toList
  rw [hll] at hpl
  have HPL := hide hpl; clear hpl
  go_enter Tryd.func81, Tryd.ntmps81
  go_wp2_with fail
  go_loopw [5, 6, 7] (fun v f i wr => ∃ (from_ k : Nat) (out : List (List UInt8)), f = .int .i64 from_ ∧ i = .int .i64 k ∧ from_ ≤ k ∧ k ≤ s.size ∧ Hid (out ++ splL c (s.data.toList.drop from_) = splL c s.data.toList ∧ (∀ j (hj : j < s.data.toList.length), from_ ≤ j → j < k → s.data.toList[j] ≠ c)) ∧ OwnT wr w.heap.size v (out.map bsL) ∧ Below w.heap.size w wr) (fun _ _ i _ => s.size - (RowKit.intOf i).toNat)
  case atStart => exact ⟨0, 0, [], rfl, rfl, Nat.le_refl _, by omega, Lib.hid ⟨rfl, fun j _ h1 h2 => by omega⟩, OwnT.nil _ _, Below.refl _ _⟩
  case round =>
    obtain ⟨from_, k, out, rfl, rfl, hfk, hk, hI, hO, hb⟩ := hrel
    have hol : Hid (out.length + 1 ≤ s.size + 1) := by
      have h := congrArg List.length hI.out.1
      rw [List.length_append] at h
      have h2 := unhide HPL
      have h3 : 0 < (splL c (s.data.toList.drop from_)).length := List.length_pos_iff.2 (splL_ne c _)
      unfold Hid
      omega
    have HX := hide (And.intro hI (And.intro hO hb)); clear hI hO hb
    rcases Nat.lt_or_ge k s.size with hlt | hge
    · have hix : (s[k]'hlt).toNat < 256 := s[k].toNat_lt
      by_cases hc : s[k] = c
      · have hcc : ((s[k].toNat : Int) == (c.toNat : Int)) = true := by rw [hc]; simp
        have hsl1 : (from_ : Int) ≤ (k : Int) := by omega
        have hsl2 : (k : Int) ≤ (s.size : Int) := by omega
        have HC := Lib.hid hc; clear hc
        go_wp2_with (first | (at_builtin; refine wpList_appT1 wr rfl _ _ rfl (unhide HX).2.1 rfl rfl (by rw [List.length_map]; have := hol.out; omega) (unhide HX).2.2.size ?_; intro v1 w1 hO1 hg1 hat1; have H1 := hide (And.intro hO1 (And.intro hg1 hat1)); clear hO1 hg1 hat1))
        have hb1 : Below w.heap.size w w1 := ((unhide HX).2.2.alloc (unhide HX).2.2.size _).grown (unhide H1).2.1 (by have := (unhide HX).2.2.size; simp; omega) (fun q hq => (World.ownsRow.lt (unhide HX).2.1 _ hq).1)
        have hst := splL_step c s.data.toList from_ k hfk (by omega) HC.out (unhide HX).1.out.2
        have hseg := ext_seg s from_ k hfk hk
        go_roundw
        case rel =>
          refine ⟨k + 1, k + 1, out ++ [segL s.data.toList from_ k], by go_num, by go_num, Nat.le_refl _, by omega, Lib.hid ⟨?_, fun j _ h1 h2 => by omega⟩, ?_, hb1⟩
          · rw [List.append_assoc, List.singleton_append, ← hst]
            exact (unhide HX).1.out.1
          · rw [List.map_append, List.map_cons, List.map_nil, ← hseg]
            exact (unhide H1).1
        case measure => simp [RowKit.intOf]; omega
      · have hcc : ((s[k].toNat : Int) == (c.toNat : Int)) = false := by
          rw [beq_eq_false_iff_ne]
          exact fun e => hc (UInt8.toNat_inj.1 (by omega))
        go_wp2_with fail
        go_roundw
        case rel =>
          refine ⟨from_, k + 1, out, rfl, by go_num, by omega, by omega, Lib.hid ⟨(unhide HX).1.out.1, fun j hj h1 h2 => ?_⟩, (unhide HX).2.1, (unhide HX).2.2⟩
          rcases Nat.lt_succ_iff_lt_or_eq.1 h2 with h' | rfl
          · exact (unhide HX).1.out.2 j hj h1 h'
          · exact hc
        case measure => simp [RowKit.intOf]; omega
    · obtain rfl : k = s.size := by omega
      have hsl1 : (from_ : Int) ≤ (s.size : Int) := by omega
      go_wp2_with (first | (at_builtin; refine wpList_appT1 wr rfl _ _ rfl (unhide HX).2.1 rfl rfl (by rw [List.length_map]; have := hol.out; omega) (unhide HX).2.2.size ?_; intro v1 w1 hO1 hg1 hat1; have H1 := hide (And.intro hO1 (And.intro hg1 hat1)); clear hO1 hg1 hat1))
      have hb1 : Below w.heap.size w w1 := ((unhide HX).2.2.alloc (unhide HX).2.2.size _).grown (unhide H1).2.1 (by have := (unhide HX).2.2.size; simp; omega) (fun q hq => (World.ownsRow.lt (unhide HX).2.1 _ hq).1)
      have hseg := ext_seg s from_ s.size hfk (Nat.le_refl _)
      have hend := splL_end c s.data.toList from_ (fun j hj h1 => (unhide HX).1.out.2 j hj h1 (by omega))
      go_ret
      refine ⟨_, rfl, ?_, hb1⟩
      have h := (unhide HX).1.out.1
      rw [hend] at h
      rw [← h, List.map_append, List.map_cons, List.map_nil]
      have hsl : segL s.data.toList from_ s.size = s.data.toList.drop from_ := List.take_of_length_le (by rw [List.length_drop]; omega)
      rw [← hsl, ← hseg]
      exact (unhide H1).1
/-- What Lines answers. -/
def LinesA (base : Nat) (s : ByteArray) (v : Value) (w : World) : Prop := match linesV s with
  | some es => ∃ u, v = .tuple #[u, .int .i64 0] ∧ OwnT w base u es
  | none => v = .tuple #[.slice none 0 0, .int .i64 43]
theorem LinesA.some {base : Nat} {s : ByteArray} {v : Value} {w : World} {es : List ByteArray} (h : linesV s = some es) (u : Value) (hv : v = .tuple #[u, .int .i64 0]) (hO : OwnT w base u es) : LinesA base s v w := by
  unfold LinesA; rw [h]; exact ⟨u, hv, hO⟩
theorem LinesA.none {base : Nat} {s : ByteArray} {v : Value} {w : World} (h : linesV s = none) (hv : v = .tuple #[.slice none 0 0, .int .i64 43]) : LinesA base s v w := by
  unfold LinesA; rw [h]; exact hv
theorem LinesA.get {base : Nat} {s : ByteArray} {v : Value} {w : World} (h : LinesA base s v w) : (∃ es u, linesV s = .some es ∧ v = .tuple #[u, .int .i64 0] ∧ OwnT w base u es) ∨ (linesV s = .none ∧ v = .tuple #[.slice .none 0 0, .int .i64 43]) := by
  unfold LinesA at h
  cases hl : linesV s with
  | none => rw [hl] at h; exact .inr ⟨rfl, h⟩
  | some es => rw [hl] at h; obtain ⟨u, h1, h2⟩ := h; exact .inl ⟨es, u, rfl, h1, h2⟩
set_option maxRecDepth 100000 in
set_option maxHeartbeats 1000000 in
theorem lines_any (s : ByteArray) (w : World) (hs : s.size ≤ 1099511627776) :
    Calls Tryd.prog 51 #[.string s] w fun e w' => ∃ v, e = .returned v ∧ LinesA w.heap.size s v w' ∧ Below w.heap.size w w' := by
  rcases Nat.eq_zero_or_pos s.size with h0 | h0
  · obtain rfl : s = ByteArray.empty := ByteArray.ext (Array.eq_empty_of_size_eq_zero h0)
    go_enter Tryd.func51, Tryd.ntmps51
    go_wp2_with fail
    go_ret2
    exact ⟨_, rfl, LinesA.some (es := []) rfl (.slice none 0 0) rfl (OwnT.nil _ _), Below.refl _ _⟩
  · have hne : ¬ s = ByteArray.empty := fun e => by rw [e] at h0; exact absurd h0 (by decide)
    have hnl : (s.toList.isEmpty) = false := by
      rw [ByteArray.toList_eq]
      cases h : s.data.toList with
      | nil => have := congrArg List.length h; rw [Array.length_toList] at this; exact absurd this (by show ¬ s.size = 0; omega)
      | cons a r => rfl
    have hlt : s.size - 1 < s.size := by omega
    have hix : (s[s.size - 1]'hlt).toNat < 256 := s[s.size - 1].toNat_lt
    have hm1 : (s.size : Int) - 1 = ((s.size - 1 : Nat) : Int) := by omega
    have hll : s.data.toList.length = s.size := Array.length_toList
    have hgl : s.data.toList.getLast? = some s[s.size - 1] := by
      rw [List.getLast?_eq_getElem?, hll, List.getElem?_eq_getElem (by omega)]
      rfl
    have HGL := Lib.hid hgl; clear hgl
    by_cases hc : s[s.size - 1] = 10
    · have hcc : ((s[s.size - 1].toNat : Int) == 10) = true := by rw [hc]; rfl
      have hres : Hid (linesV s = some ((splL 10 (s.extract 0 (s.size - 1)).data.toList).map bsL)) := by
        unfold linesV
        rw [Hid, if_neg (by omega), HGL.out, hc, if_pos rfl]
        rw [bytes_extract _ _ _ (by omega), List.drop_zero, Nat.sub_zero, List.dropLast_eq_take, hll]
      have hp := fun W => parted_any (s.extract 0 (s.size - 1)) 10 W (by rw [ByteArray.size_extract]; omega)
      have HP := hide hp; clear hp
      go_enter Tryd.func51, Tryd.ntmps51
      go_wp2_with fail
      refine (unhide HP _).mono ?_
      rintro e w1 ⟨v, rfl, hO, hb⟩
      have H1 := hide (And.intro hO hb); clear hO hb
      go_wp2_with fail
      go_ret2
      exact ⟨_, rfl, LinesA.some hres.out v rfl (unhide H1).1, (unhide H1).2⟩
    · have hcc : ((s[s.size - 1].toNat : Int) == 10) = false := by
        rw [beq_eq_false_iff_ne]
        exact fun e => hc (UInt8.toNat_inj.1 (by rw [show (10 : UInt8).toNat = 10 from rfl]; omega))
      have hres : Hid (linesV s = none) := by
        unfold linesV
        rw [Hid, if_neg (by omega), HGL.out, if_neg (by simpa using hc)]
      go_enter Tryd.func51, Tryd.ntmps51
      go_wp2_with fail
      go_ret2
      exact ⟨_, rfl, LinesA.none hres.out rfl, Below.refl _ _⟩
end Go.Proofs.YtfhaoamlagnpjaaDoor

set_option linter.unusedVariables false
set_option linter.unusedSimpArgs false
namespace Go.Proofs.YtfhaoamlagnpjaaDoor
open Go.RowKit Go.Lib
set_option maxRecDepth 100000 in
set_option maxHeartbeats 1000000 in
theorem rlines_any (s : ByteArray) (w : World) (hs : s.size ≤ 1099511627776) :
    Calls Tryd.prog 55 #[.string s] w fun e w' => ∃ v, e = .returned v ∧ LinesA w.heap.size s v w' ∧ Below w.heap.size w w' := by
  have hll : s.data.toList.length = s.size := Array.length_toList
  have hpl := splL_length 10 s.data.toList
  rw [hll] at hpl
  have HPL := hide hpl; clear hpl
  go_enter Tryd.func55, Tryd.ntmps55
  go_wp2_with fail
  go_loopw [4, 5, 6] (fun v f i wr => ∃ (from_ k : Nat) (out : List (List UInt8)), f = .int .i64 from_ ∧ i = .int .i64 k ∧ from_ ≤ k ∧ k ≤ s.size ∧ Hid (out ++ splL 10 (s.data.toList.drop from_) = splL 10 s.data.toList ∧ (∀ j (hj : j < s.data.toList.length), from_ ≤ j → j < k → s.data.toList[j] ≠ 10)) ∧ OwnT wr w.heap.size v (out.map bsL) ∧ Below w.heap.size w wr) (fun _ _ i _ => s.size - (RowKit.intOf i).toNat)
  case atStart => exact ⟨0, 0, [], rfl, rfl, Nat.le_refl _, by omega, Lib.hid ⟨rfl, fun j _ h1 h2 => by omega⟩, OwnT.nil _ _, Below.refl _ _⟩
  case round =>
    obtain ⟨from_, k, out, rfl, rfl, hfk, hk, hI, hO, hb⟩ := hrel
    have hol : Hid (out.length + 1 ≤ s.size + 1) := by
      have h := congrArg List.length hI.out.1
      rw [List.length_append] at h
      have h2 := unhide HPL
      have h3 : 0 < (splL 10 (s.data.toList.drop from_)).length := List.length_pos_iff.2 (splL_ne 10 _)
      unfold Hid
      omega
    have HX := hide (And.intro hI (And.intro hO hb)); clear hI hO hb
    rcases Nat.lt_or_ge k s.size with hlt | hge
    · have hix : (s[k]'hlt).toNat < 256 := s[k].toNat_lt
      by_cases hc : s[k] = 10
      · have hcc : ((s[k].toNat : Int) == 10) = true := by rw [hc]; rfl
        have hsl1 : (from_ : Int) ≤ (k : Int) := by omega
        have hsl2 : (k : Int) ≤ (s.size : Int) := by omega
        have HC := Lib.hid hc; clear hc
        go_wp2_with (first | (at_builtin; refine wpList_appT1 wr rfl _ _ rfl (unhide HX).2.1 rfl rfl (by rw [List.length_map]; have := hol.out; omega) (unhide HX).2.2.size ?_; intro v1 w1 hO1 hg1 hat1; have H1 := hide (And.intro hO1 (And.intro hg1 hat1)); clear hO1 hg1 hat1))
        have hb1 : Below w.heap.size w w1 := ((unhide HX).2.2.alloc (unhide HX).2.2.size _).grown (unhide H1).2.1 (by have := (unhide HX).2.2.size; simp; omega) (fun q hq => (World.ownsRow.lt (unhide HX).2.1 _ hq).1)
        have hst := splL_step 10 s.data.toList from_ k hfk (by omega) HC.out (unhide HX).1.out.2
        have hseg := ext_seg s from_ k hfk hk
        go_roundw
        case rel =>
          refine ⟨k + 1, k + 1, out ++ [segL s.data.toList from_ k], by go_num, by go_num, Nat.le_refl _, by omega, Lib.hid ⟨?_, fun j _ h1 h2 => by omega⟩, ?_, hb1⟩
          · rw [List.append_assoc, List.singleton_append, ← hst]
            exact (unhide HX).1.out.1
          · rw [List.map_append, List.map_cons, List.map_nil, ← hseg]
            exact (unhide H1).1
        case measure => simp [RowKit.intOf]; omega
      · have hcc : ((s[k].toNat : Int) == 10) = false := by
          rw [beq_eq_false_iff_ne]
          exact fun e => hc (UInt8.toNat_inj.1 (by rw [show (10 : UInt8).toNat = 10 from rfl]; omega))
        go_wp2_with fail
        go_roundw
        case rel =>
          refine ⟨from_, k + 1, out, rfl, by go_num, by omega, by omega, Lib.hid ⟨(unhide HX).1.out.1, fun j hj h1 h2 => ?_⟩, (unhide HX).2.1, (unhide HX).2.2⟩
          rcases Nat.lt_succ_iff_lt_or_eq.1 h2 with h' | rfl
          · exact (unhide HX).1.out.2 j hj h1 h'
          · exact hc
        case measure => simp [RowKit.intOf]; omega
    · obtain rfl : k = s.size := by omega
      have hend := splL_end 10 s.data.toList from_ (fun j hj h1 => (unhide HX).1.out.2 j hj h1 (by omega))
      have h := (unhide HX).1.out.1
      rw [hend] at h
      have hres := Lib.hid (linesV_parts s from_ out hfk h.symm)
      clear h hend
      rcases Nat.lt_or_ge from_ s.size with hf | hf
      · go_wp2_with fail
        go_ret2
        exact ⟨_, rfl, LinesA.none (by rw [hres.out, if_pos hf]) rfl, (unhide HX).2.2⟩
      · go_wp2_with fail
        go_ret2
        exact ⟨_, rfl, LinesA.some (by rw [hres.out, if_neg (by omega)]) _ rfl (unhide HX).2.1, (unhide HX).2.2⟩
theorem rund_form (n : Int) (c : UInt8) (h : 48 ≤ c.toNat ∧ c.toNat ≤ 57) : wrap64 (wrap64 (10 * n) - ((c.toNat : Int) - 48)) = rundStep n c := by
  obtain ⟨k, hk⟩ := wrap64_mod (10 * n)
  unfold rundStep
  rw [if_pos h]
  exact wrap64_of _ _ k (by omega)
set_option maxRecDepth 100000 in
set_option maxHeartbeats 1000000 in
theorem rundec_any (s : ByteArray) (w : World) (hs : s.size ≤ 1099511627776) :
    Calls Tryd.prog 56 #[.string s] w fun e w' => e = .returned (undA s) ∧ w = w' := by
  by_cases h1 : 20 < s.size
  · have hres : Hid (undA s = .tuple #[.int .i64 0, .int .i64 42]) := undA_none (undV_size (.inr h1))
    have h3 : (20 : Int) < (s.size : Int) := by omega
    go_enter Tryd.func56, Tryd.ntmps56
    go_wp2_with fail
    go_ret2
    exact ⟨by rw [hres.out]; rfl, rfl⟩
  · have h3 : ¬ (20 : Int) < (s.size : Int) := by omega
    have h2 : s.size ≤ 20 := by omega
    have hll : s.data.toList.length = s.size := Array.length_toList
    clear h1
    go_enter Tryd.func56, Tryd.ntmps56
    go_wp2_with fail
    have hlo := rundL_lo s.data.toList
    have hde : ∀ z, decS z = s → -9223372036854775808 ≤ z → z ≤ 9223372036854775807 → rundL s.data.toList = z := fun z e h0 h1 => by
      have e' : s.data.toList = decL z := by rw [← e]; rfl
      rw [e', rundL_dec z h0 h1]
    have hrl : rundL s.data.toList = if s.data.toList.head? = some 45 then s.data.toList.foldl rundStep 0 else wrap64 (-(s.data.toList.foldl rundStep 0)) := rfl
    have HD0 := hide (And.intro hlo (And.intro hde hrl)); clear hlo hde hrl
    go_loopw [4, 5] (fun n i wr => ∃ k : Nat, k ≤ s.size ∧ i = .int .i64 k ∧ n = .int .i64 ((s.data.toList.take k).foldl rundStep 0) ∧ Hid (w = wr)) (fun _ i _ => s.size - (RowKit.intOf i).toNat)
    case atStart => exact ⟨0, by omega, rfl, rfl, Lib.hid rfl⟩
    case round =>
      obtain ⟨k, hk, rfl, rfl, hw⟩ := hrel
      obtain rfl := hw.out
      rcases Nat.lt_or_ge k s.size with hlt | hge
      · have hix : (s[k]'hlt).toNat < 256 := s[k].toNat_lt
        have hkl : k < s.data.toList.length := by omega
        have hnx : Hid ((s.data.toList.take (k + 1)).foldl rundStep 0 = rundStep ((s.data.toList.take k).foldl rundStep 0) s[k]) := by
          rw [Hid, List.take_succ_eq_append_getElem hkl, List.foldl_append]
          rfl
        generalize (s.data.toList.take k).foldl rundStep 0 = n at *
        have hlv : s[k].toNat < 256 := hix
        by_cases hr : 48 ≤ s[k].toNat ∧ s[k].toNat ≤ 57
        · have hfm := Lib.hid (rund_form n s[k] hr)
          have hc1 : (48 : Int) ≤ (s[k].toNat : Int) := by omega
          have hc2 : (s[k].toNat : Int) ≤ 57 := by omega
          go_wp2_with fail
          go_roundw
          case rel => exact ⟨k + 1, by omega, by go_num, by rw [hnx.out, ← hfm.out], Lib.hid trivial⟩
          case measure => simp [RowKit.intOf]; omega
        · have hrn : Hid (rundStep n s[k] = n) := by unfold rundStep; rw [Hid, if_neg hr]
          by_cases hc1 : 48 ≤ s[k].toNat
          · have hc1' : (48 : Int) ≤ (s[k].toNat : Int) := by omega
            have hc2 : ¬ (s[k].toNat : Int) ≤ 57 := by omega
            clear hr
            go_wp2_with fail
            go_roundw
            case rel => exact ⟨k + 1, by omega, by go_num, by rw [hnx.out, hrn.out], Lib.hid trivial⟩
            case measure => simp [RowKit.intOf]; omega
          · have hc1' : ¬ (48 : Int) ≤ (s[k].toNat : Int) := by omega
            clear hr
            go_wp2_with fail
            go_roundw
            case rel => exact ⟨k + 1, by omega, by go_num, by rw [hnx.out, hrn.out], Lib.hid trivial⟩
            case measure => simp [RowKit.intOf]; omega
      · obtain rfl : k = s.size := by omega
        have hta : Hid (s.data.toList.take s.size = s.data.toList) := List.take_of_length_le (by omega)
        rw [hta.out]
        obtain ⟨hlo, hde, hrl⟩ := unhide HD0
        have hfin : ∀ z, Hid (rundL s.data.toList = z) → Calls Tryd.prog 47 #[.int .i64 z] w fun e w' => e = .returned (.string (decS z)) ∧ w = w' := fun z hz => rdec_any z w (by rw [← hz.out]; exact hlo.1) (by rw [← hz.out]; exact hlo.2)
        have hund : ∀ z, Hid (rundL s.data.toList = z) → Hid (undV s = if decS z = s then some z else none) := fun z hz => undV_back (by rw [← hz.out]; exact hlo.1) (by rw [← hz.out]; exact hlo.2) (fun y h0 h1 e => hz.out.symm.trans (hde y e h0 h1))
        have HF := hide hfin; have HU := hide hund; have HR := Lib.hid hrl; clear hfin hund hrl hlo hde HD0
        generalize s.data.toList.foldl rundStep 0 = n at *
        rcases Nat.eq_zero_or_pos s.size with h0 | h0
        · have hz : Hid (rundL s.data.toList = wrap64 (-n)) := by
            have : s.data.toList = [] := List.eq_nil_of_length_eq_zero (by omega)
            rw [Hid, HR.out, this]; rfl
          have h00 : ((s.size : Int) == 0) = true := by rw [h0]; rfl
          go_wp2_with fail
          refine (unhide HF _ hz).mono ?_
          rintro e w1 ⟨rfl, rfl⟩
          have huv := unhide HU _ hz
          obtain ⟨D, HDe⟩ : ∃ D, Hid (decS (wrap64 (-n)) = D) := ⟨_, Lib.hid rfl⟩
          rw [HDe.out] at huv ⊢
          have HUV := hide huv; clear huv
          by_cases he : D = s
          · have hres : Hid (undA s = .tuple #[.int .i64 (wrap64 (-n)), .int .i64 0]) := undA_some (by rw [(unhide HUV).out, if_pos he])
            subst he
            go_wp2_with fail
            go_ret2
            exact ⟨by rw [hres.out]; rfl, rfl⟩
          · have hres : Hid (undA s = .tuple #[.int .i64 0, .int .i64 42]) := undA_none (by rw [(unhide HUV).out, if_neg he])
            have he' := toList_ne he
            go_wp2_with fail
            go_ret2
            exact ⟨by rw [hres.out]; rfl, rfl⟩
        · have hix : (s[0]'h0).toNat < 256 := s[0].toNat_lt
          have hhd : s.data.toList.head? = some s[0] := by
            rw [List.head?_eq_getElem?, List.getElem?_eq_getElem (by omega)]
            rfl
          have hne : ¬ s = ByteArray.empty := fun e => by rw [e] at h0; exact absurd h0 (by decide)
          have hz0 : ((s.size : Int) == 0) = false := by rw [beq_eq_false_iff_ne]; omega
          by_cases hm : s[0] = 45
          · have hz : Hid (rundL s.data.toList = n) := by rw [Hid, HR.out, hhd, hm]; rfl
            have hmm : ((s[0].toNat : Int) == 45) = true := by rw [hm]; rfl
            clear hhd
            go_wp2_with fail
            refine (unhide HF _ hz).mono ?_
            rintro e w1 ⟨rfl, rfl⟩
            have huv := unhide HU _ hz
            obtain ⟨D, HDe⟩ : ∃ D, Hid (decS n = D) := ⟨_, Lib.hid rfl⟩
            rw [HDe.out] at huv ⊢
            have HUV := hide huv; clear huv
            by_cases he : D = s
            · have hres : Hid (undA s = .tuple #[.int .i64 n, .int .i64 0]) := undA_some (by rw [(unhide HUV).out, if_pos he])
              subst he
              go_wp2_with fail
              go_ret2
              exact ⟨by rw [hres.out]; rfl, rfl⟩
            · have hres : Hid (undA s = .tuple #[.int .i64 0, .int .i64 42]) := undA_none (by rw [(unhide HUV).out, if_neg he])
              have he' := toList_ne he
              go_wp2_with fail
              go_ret2
              exact ⟨by rw [hres.out]; rfl, rfl⟩
          · have hz : Hid (rundL s.data.toList = wrap64 (-n)) := by
              rw [Hid, HR.out, hhd, if_neg (fun e => hm (Option.some.inj e))]
            have hmm : ((s[0].toNat : Int) == 45) = false := by
              rw [beq_eq_false_iff_ne]
              exact fun e => hm (UInt8.toNat_inj.1 (by rw [show (45 : UInt8).toNat = 45 from rfl]; omega))
            clear hhd
            go_wp2_with fail
            refine (unhide HF _ hz).mono ?_
            rintro e w1 ⟨rfl, rfl⟩
            have huv := unhide HU _ hz
            obtain ⟨D, HDe⟩ : ∃ D, Hid (decS (wrap64 (-n)) = D) := ⟨_, Lib.hid rfl⟩
            rw [HDe.out] at huv ⊢
            have HUV := hide huv; clear huv
            by_cases he : D = s
            · have hres : Hid (undA s = .tuple #[.int .i64 (wrap64 (-n)), .int .i64 0]) := undA_some (by rw [(unhide HUV).out, if_pos he])
              subst he
              go_wp2_with fail
              go_ret2
              exact ⟨by rw [hres.out]; rfl, rfl⟩
            · have hres : Hid (undA s = .tuple #[.int .i64 0, .int .i64 42]) := undA_none (by rw [(unhide HUV).out, if_neg he])
              have he' := toList_ne he
              go_wp2_with fail
              go_ret2
              exact ⟨by rw [hres.out]; rfl, rfl⟩
end Go.Proofs.YtfhaoamlagnpjaaDoor

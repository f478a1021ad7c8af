/-
  CONTRACT of the document's lines.
-/
import Derived.Test.YtaomecinemmdgaaRows
import Derived.Test.YtaomecinemmdgaaWd
import Derived.Test.YtaomecinemmdgaaStrRow
import Derived.Test.YtaomecinemmdgaaLines
import Derived.Test.YtaomecinemmdgaaStepP
set_option linter.unusedVariables false
set_option linter.unusedSimpArgs false
namespace Go.Proofs.Ytaomecinemmdgaa
open Go.RowKit Go.Lib
theorem linL_parts (l : List UInt8) (out : List (List UInt8)) (a : Nat) (h : splL 10 l = out ++ [l.drop a]) : linL l = if l.drop a = [] then out else out ++ [l.drop a] := by
  unfold linL
  have hg : (splL 10 l).getLast (splL_ne 10 l) = l.drop a := by
    simp only [h]
    rw [List.getLast_append_of_ne_nil _ (by simp)]
    rfl
  rw [hg]
  split
  · rw [h, List.dropLast_concat]
  · exact h
set_option maxRecDepth 100000 in
set_option maxHeartbeats 1000000 in
theorem rlin_any (s : ByteArray) (w : World) (hs : s.size ≤ 1099511627776) :
    Calls Try.prog 46 #[.string s] w fun e w' => ∃ v, e = .returned v ∧ OwnT w' w.heap.size v ((linL s.data.toList).map bsL) ∧ Below w.heap.size w w' := by
  have hll : s.data.toList.length = s.size := Array.length_toList
  have hpl := splL_length 10 s.data.toList
  rw [hll] at hpl
  have HPL := hide hpl; clear hpl
  go_enter Try.func46, Try.ntmps46
  go_wp2_with fail
  go_loopw [3, 4, 5] (fun v f i wr => ∃ (from_ k : Nat) (out : List (List UInt8)), f = .int .i64 from_ ∧ i = .int .i64 k ∧ from_ ≤ k ∧ k ≤ s.size ∧ Hid (out ++ splL 10 (s.data.toList.drop from_) = splL 10 s.data.toList ∧ (∀ j (hj : j < s.data.toList.length), from_ ≤ j → j < k → s.data.toList[j] ≠ 10)) ∧ OwnT wr w.heap.size v (out.map bsL) ∧ Below w.heap.size w wr) (fun _ _ i _ => s.size - (RowKit.intOf i).toNat)
  case atStart => exact ⟨0, 0, [], rfl, rfl, Nat.le_refl _, by omega, Lib.hid ⟨rfl, fun j _ h1 h2 => by omega⟩, OwnT.nil _ _, Below.refl _ _⟩
  case round =>
    obtain ⟨from_, k, out, rfl, rfl, hfk, hk, hI, hO, hb⟩ := hrel
    have hol : Hid (out.length + 1 ≤ s.size + 1) := by
      have h := congrArg List.length hI.out.1
      rw [List.length_append] at h
      have h2 := unhide HPL
      have h3 : 0 < (splL 10 (s.data.toList.drop from_)).length := List.length_pos_iff.2 (splL_ne 10 _)
      unfold Hid
      omega
    have HX := hide (And.intro hI (And.intro hO hb)); clear hI hO hb
    rcases Nat.lt_or_ge k s.size with hlt | hge
    · have hix : (s[k]'hlt).toNat < 256 := s[k].toNat_lt
      by_cases hc : s[k] = 10
      · have hcc : ((s[k].toNat : Int) == 10) = true := by rw [hc]; rfl
        have hsl1 : (from_ : Int) ≤ (k : Int) := by omega
        have hsl2 : (k : Int) ≤ (s.size : Int) := by omega
        have HC := Lib.hid hc; clear hc
        go_wp2_with (first | (at_builtin; refine wpList_appT1 wr rfl _ _ rfl (unhide HX).2.1 rfl rfl (by rw [List.length_map]; have := hol.out; omega) (unhide HX).2.2.size ?_; intro v1 w1 hO1 hg1 hat1; have H1 := hide (And.intro hO1 (And.intro hg1 hat1)); clear hO1 hg1 hat1))
        have hb1 : Below w.heap.size w w1 := ((unhide HX).2.2.alloc (unhide HX).2.2.size _).grown (unhide H1).2.1 (by have := (unhide HX).2.2.size; simp; omega) (fun q hq => (World.ownsRow.lt (unhide HX).2.1 _ hq).1)
        have hst := splL_step 10 s.data.toList from_ k hfk (by omega) HC.out (unhide HX).1.out.2
        have hseg := ext_seg s from_ k hfk hk
        go_roundw
        case rel =>
          refine ⟨k + 1, k + 1, out ++ [segL s.data.toList from_ k], by go_num, by go_num, Nat.le_refl _, by omega, Lib.hid ⟨?_, fun j _ h1 h2 => by omega⟩, ?_, hb1⟩
          · rw [List.append_assoc, List.singleton_append, ← hst]
            exact (unhide HX).1.out.1
          · rw [List.map_append, List.map_cons, List.map_nil, ← hseg]
            exact (unhide H1).1
        case measure => simp [RowKit.intOf]; omega
      · have hcc : ((s[k].toNat : Int) == 10) = false := by
          rw [beq_eq_false_iff_ne]
          exact fun e => hc (UInt8.toNat_inj.1 (by rw [show (10 : UInt8).toNat = 10 from rfl]; omega))
        go_wp2_with fail
        go_roundw
        case rel =>
          refine ⟨from_, k + 1, out, rfl, by go_num, by omega, by omega, Lib.hid ⟨(unhide HX).1.out.1, fun j hj h1 h2 => ?_⟩, (unhide HX).2.1, (unhide HX).2.2⟩
          rcases Nat.lt_succ_iff_lt_or_eq.1 h2 with h' | rfl
          · exact (unhide HX).1.out.2 j hj h1 h'
          · exact hc
        case measure => simp [RowKit.intOf]; omega
    · obtain rfl : k = s.size := by omega
      have hend := splL_end 10 s.data.toList from_ (fun j hj h1 => (unhide HX).1.out.2 j hj h1 (by omega))
      have h := (unhide HX).1.out.1
      rw [hend] at h
      have hres := Lib.hid (linL_parts s.data.toList out from_ h.symm)
      have hlz : Hid (s.data.toList.length = s.size) := Lib.hid Array.length_toList
      clear h hend
      rcases Nat.lt_or_ge from_ s.size with hf | hf
      · have hr := hres.out
        rw [if_neg (by intro e; have := congrArg List.length e; rw [List.length_drop, List.length_nil] at this; have := hlz.out; omega)] at hr
        have HR := Lib.hid hr; clear hres hr
        have hsl1 : (from_ : Int) ≤ (s.size : Int) := by omega
        have hsl2 : (from_ : Int) < (s.size : Int) := by omega
        have hseg := Lib.hid (ext_seg s from_ s.size hfk (Nat.le_refl _))
        go_wp2_with (first | (at_builtin; refine wpList_appT1 wr rfl _ _ rfl (unhide HX).2.1 rfl rfl (by rw [List.length_map]; have := hol.out; omega) (unhide HX).2.2.size ?_; intro v1 w1 hO1 hg1 hat1; have H1 := hide (And.intro hO1 (appT_below (unhide HX).2.2 (unhide HX).2.1 (unhide HX).2.2.size hg1)); obtain ⟨Ao, co, rfl, -⟩ := id (ownT_strs hO1); clear hO1 hg1 hat1))
        go_ret
        refine ⟨_, rfl, ?_, (unhide H1).2⟩
        have h1 := (unhide H1).1
        rw [HR.out, List.map_append, List.map_cons, List.map_nil]
        rw [hseg.out] at h1
        have e : segL s.data.toList from_ s.size = s.data.toList.drop from_ := by
          unfold segL
          rw [List.take_of_length_le]
          rw [List.length_drop]; have := hlz.out; omega
        rw [e] at h1
        simp only [List.length_append, List.length_map, List.length_cons, List.length_nil, Nat.zero_add] at h1
        exact h1
      · have hr := hres.out
        rw [if_pos (List.drop_eq_nil_of_le (by have := hlz.out; omega))] at hr
        have HR := Lib.hid hr; clear hres hr
        have hsl2 : ¬ (from_ : Int) < (s.size : Int) := by omega
        obtain ⟨Ao, co, rfl, -⟩ := id (ownT_strs (unhide HX).2.1)
        go_wp2_with fail
        go_ret
        refine ⟨_, rfl, ?_, (unhide HX).2.2⟩
        rw [HR.out]
        have h1 := (unhide HX).2.1
        simp only [List.length_map] at h1
        exact h1
end Go.Proofs.Ytaomecinemmdgaa

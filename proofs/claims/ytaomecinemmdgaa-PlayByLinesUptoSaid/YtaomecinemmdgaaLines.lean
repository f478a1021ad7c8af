/-
  CONTRACTS of package text: a text is parted, and parted into lines.
-/
import Derived.Test.YtaomecinemmdgaaRows
import Derived.Test.YtaomecinemmdgaaWd
import Derived.Test.YtaomecinemmdgaaCopyStr
import Derived.Test.YtaomecinemmdgaaStrRow
import Derived.Test.YtaomecinemmdgaaLinesP
import Derived.StillTailTactics
import Derived.Deep.RegionHeld3
set_option linter.unusedVariables false
set_option linter.unusedSimpArgs false
namespace Go.Proofs.Ytaomecinemmdgaa
open Go.RowKit Go.Lib
theorem ext_seg (s : ByteArray) (a b : Nat) (hab : a ≤ b) (hb : b ≤ s.size) : s.extract a b = bsL (segL s.data.toList a b) := by
  apply ByteArray.ext
  apply Array.ext'
  rw [bytes_extract _ _ _ hb]
  rfl
set_option maxRecDepth 100000 in
set_option maxHeartbeats 1000000 in
theorem parted_any (s : ByteArray) (c : UInt8) (w : World) (hs : s.size ≤ 1099511627776) :
    Calls Try.prog 63 #[.string s, .int .u8 (c.toNat : Int)] w fun e w' => ∃ v, e = .returned v ∧ OwnT w' w.heap.size v ((splL c s.data.toList).map bsL) ∧ Below w.heap.size w w' := by
  have hll : s.data.toList.length = s.size := Array.length_toList
  have hcl := c.toNat_lt
  have hpl := splL_length c s.data.toList
  rw [hll] at hpl
  have HPL := hide hpl; clear hpl
  go_enter Try.func63, Try.ntmps63
  go_wp2_with fail
  go_loopw [5, 6, 7] (fun v f i wr => ∃ (from_ k : Nat) (out : List (List UInt8)), f = .int .i64 from_ ∧ i = .int .i64 k ∧ from_ ≤ k ∧ k ≤ s.size ∧ Hid (out ++ splL c (s.data.toList.drop from_) = splL c s.data.toList ∧ (∀ j (hj : j < s.data.toList.length), from_ ≤ j → j < k → s.data.toList[j] ≠ c)) ∧ OwnT wr w.heap.size v (out.map bsL) ∧ Below w.heap.size w wr) (fun _ _ i _ => s.size - (RowKit.intOf i).toNat)
  case atStart => exact ⟨0, 0, [], rfl, rfl, Nat.le_refl _, by omega, Lib.hid ⟨rfl, fun j _ h1 h2 => by omega⟩, OwnT.nil _ _, Below.refl _ _⟩
  case round =>
    obtain ⟨from_, k, out, rfl, rfl, hfk, hk, hI, hO, hb⟩ := hrel
    have hol : Hid (out.length + 1 ≤ s.size + 1) := by
      have h := congrArg List.length hI.out.1
      rw [List.length_append] at h
      have h2 := unhide HPL
      have h3 : 0 < (splL c (s.data.toList.drop from_)).length := List.length_pos_iff.2 (splL_ne c _)
      unfold Hid
      omega
    have HX := hide (And.intro hI (And.intro hO hb)); clear hI hO hb
    rcases Nat.lt_or_ge k s.size with hlt | hge
    · have hix : (s[k]'hlt).toNat < 256 := s[k].toNat_lt
      by_cases hc : s[k] = c
      · have hcc : ((s[k].toNat : Int) == (c.toNat : Int)) = true := by rw [hc]; simp
        have hsl1 : (from_ : Int) ≤ (k : Int) := by omega
        have hsl2 : (k : Int) ≤ (s.size : Int) := by omega
        have HC := Lib.hid hc; clear hc
        go_wp2_with (first | (at_builtin; refine wpList_appT1 wr rfl _ _ rfl (unhide HX).2.1 rfl rfl (by rw [List.length_map]; have := hol.out; omega) (unhide HX).2.2.size ?_; intro v1 w1 hO1 hg1 hat1; have H1 := hide (And.intro hO1 (And.intro hg1 hat1)); clear hO1 hg1 hat1))
        have hb1 : Below w.heap.size w w1 := ((unhide HX).2.2.alloc (unhide HX).2.2.size _).grown (unhide H1).2.1 (by have := (unhide HX).2.2.size; simp; omega) (fun q hq => (World.ownsRow.lt (unhide HX).2.1 _ hq).1)
        have hst := splL_step c s.data.toList from_ k hfk (by omega) HC.out (unhide HX).1.out.2
        have hseg := ext_seg s from_ k hfk hk
        go_roundw
        case rel =>
          refine ⟨k + 1, k + 1, out ++ [segL s.data.toList from_ k], by go_num, by go_num, Nat.le_refl _, by omega, Lib.hid ⟨?_, fun j _ h1 h2 => by omega⟩, ?_, hb1⟩
          · rw [List.append_assoc, List.singleton_append, ← hst]
            exact (unhide HX).1.out.1
          · rw [List.map_append, List.map_cons, List.map_nil, ← hseg]
            exact (unhide H1).1
        case measure => simp [RowKit.intOf]; omega
      · have hcc : ((s[k].toNat : Int) == (c.toNat : Int)) = false := by
          rw [beq_eq_false_iff_ne]
          exact fun e => hc (UInt8.toNat_inj.1 (by omega))
        go_wp2_with fail
        go_roundw
        case rel =>
          refine ⟨from_, k + 1, out, rfl, by go_num, by omega, by omega, Lib.hid ⟨(unhide HX).1.out.1, fun j hj h1 h2 => ?_⟩, (unhide HX).2.1, (unhide HX).2.2⟩
          rcases Nat.lt_succ_iff_lt_or_eq.1 h2 with h' | rfl
          · exact (unhide HX).1.out.2 j hj h1 h'
          · exact hc
        case measure => simp [RowKit.intOf]; omega
    · obtain rfl : k = s.size := by omega
      have hsl1 : (from_ : Int) ≤ (s.size : Int) := by omega
      go_wp2_with (first | (at_builtin; refine wpList_appT1 wr rfl _ _ rfl (unhide HX).2.1 rfl rfl (by rw [List.length_map]; have := hol.out; omega) (unhide HX).2.2.size ?_; intro v1 w1 hO1 hg1 hat1; have H1 := hide (And.intro hO1 (And.intro hg1 hat1)); clear hO1 hg1 hat1))
      have hb1 : Below w.heap.size w w1 := ((unhide HX).2.2.alloc (unhide HX).2.2.size _).grown (unhide H1).2.1 (by have := (unhide HX).2.2.size; simp; omega) (fun q hq => (World.ownsRow.lt (unhide HX).2.1 _ hq).1)
      have hseg := ext_seg s from_ s.size hfk (Nat.le_refl _)
      have hend := splL_end c s.data.toList from_ (fun j hj h1 => (unhide HX).1.out.2 j hj h1 (by omega))
      go_ret
      refine ⟨_, rfl, ?_, hb1⟩
      have h := (unhide HX).1.out.1
      rw [hend] at h
      rw [← h, List.map_append, List.map_cons, List.map_nil]
      have hsl : segL s.data.toList from_ s.size = s.data.toList.drop from_ := List.take_of_length_le (by rw [List.length_drop]; omega)
      rw [← hsl, ← hseg]
      exact (unhide H1).1
/-- What Lines answers. -/
def LinesA (base : Nat) (s : ByteArray) (v : Value) (w : World) : Prop := match linesV s with
  | some es => ∃ u, v = .tuple #[u, .int .i64 0] ∧ OwnT w base u es
  | none => v = .tuple #[.slice none 0 0, .int .i64 43]
theorem LinesA.some {base : Nat} {s : ByteArray} {v : Value} {w : World} {es : List ByteArray} (h : linesV s = some es) (u : Value) (hv : v = .tuple #[u, .int .i64 0]) (hO : OwnT w base u es) : LinesA base s v w := by
  unfold LinesA; rw [h]; exact ⟨u, hv, hO⟩
theorem LinesA.none {base : Nat} {s : ByteArray} {v : Value} {w : World} (h : linesV s = none) (hv : v = .tuple #[.slice none 0 0, .int .i64 43]) : LinesA base s v w := by
  unfold LinesA; rw [h]; exact hv
theorem LinesA.get {base : Nat} {s : ByteArray} {v : Value} {w : World} (h : LinesA base s v w) : (∃ es u, linesV s = .some es ∧ v = .tuple #[u, .int .i64 0] ∧ OwnT w base u es) ∨ (linesV s = .none ∧ v = .tuple #[.slice .none 0 0, .int .i64 43]) := by
  unfold LinesA at h
  cases hl : linesV s with
  | none => rw [hl] at h; exact .inr ⟨rfl, h⟩
  | some es => rw [hl] at h; obtain ⟨u, h1, h2⟩ := h; exact .inl ⟨es, u, rfl, h1, h2⟩
end Go.Proofs.Ytaomecinemmdgaa

/-
  CONTRACT of package text: tabled, by a byte its place in an alphabet.
-/
import Derived.Test.YtphjpdnheaeghaaDoorRows
import Derived.Test.YtphjpdnheaeghaaDoorWd
import Derived.Test.YtphjpdnheaeghaaDoorB64
import Derived.Test.YtphjpdnheaeghaaDoorUnBP
set_option linter.unusedVariables false
set_option linter.unusedSimpArgs false
namespace Go.Proofs.YtphjpdnheaeghaaDoor
open Go.RowKit Go.Lib
def zero256 : Array Value := (List.replicate 256 (Value.int .u8 0)).toArray
/-- The table behind so many rounds. -/
def tabUp (al : List UInt8) (i : Nat) : Array Value := (List.range i).foldl (fun t j => t.setIfInBounds (al.getD j 0).toNat (.int .u8 ((j + 1 : Nat) : Int))) zero256
theorem tabUp_succ (al : List UInt8) (i : Nat) : tabUp al (i + 1) = (tabUp al i).setIfInBounds (al.getD i 0).toNat (.int .u8 ((i + 1 : Nat) : Int)) := by
  unfold tabUp
  rw [List.range_succ, List.foldl_append]
  rfl
theorem tabUp_cell (al : List UInt8) (i : Nat) (c : Nat) (hc : c < 256) : ∃ z : Int, (tabUp al i)[c]? = some (.int .u8 z) := by
  induction i with
  | zero =>
    refine ⟨0, ?_⟩
    show zero256[c]? = _
    unfold zero256
    rw [List.getElem?_toArray, List.getElem?_replicate, if_pos hc]
  | succ i ih =>
    rw [tabUp_succ]
    obtain ⟨z, hz⟩ := ih
    rw [Array.getElem?_setIfInBounds]
    split
    · have hlt : c < (tabUp al i).size := by
        rcases Nat.lt_or_ge c (tabUp al i).size with h | h
        · exact h
        · rw [Array.getElem?_eq_none h] at hz; cases hz
      rename_i e
      rw [if_pos (by omega)]
      exact ⟨_, rfl⟩
    · exact ⟨z, hz⟩
/-- The table of the sixty-four signs. -/
def tab64 : Array Value := ((List.range 256).map fun c => Value.int .u8 ((tabv c.toUInt8 : Nat) : Int)).toArray
theorem tab64_is : tabUp signsS.data.toList 64 = tab64 := by kernel_rfl
theorem tab64_at (c : UInt8) : tab64[c.toNat]? = some (.int .u8 ((tabv c : Nat) : Int)) := by
  have h := c.toNat_lt
  unfold tab64
  rw [List.getElem?_toArray, List.getElem?_map, List.getElem?_range h]
  simp
theorem tabUp_size (al : List UInt8) (i : Nat) : (tabUp al i).size = 256 := by
  induction i with
  | zero =>
    show zero256.size = 256
    unfold zero256
    rw [List.size_toArray, List.length_replicate]
  | succ i ih => rw [tabUp_succ, Array.size_setIfInBounds, ih]
theorem tabUp_one (al : List UInt8) (i : Nat) : (tabUp al i).all (·.oneCell') = true := by
  rw [Array.all_eq_true]
  intro c hc
  rw [tabUp_size] at hc
  obtain ⟨z, hz⟩ := tabUp_cell al i c hc
  have := (Array.getElem?_eq_some_iff.1 hz).2
  rw [this]
  rfl
theorem below_setRow {B : Nat} {a w : World} (h : Below B a w) {g : Nat} (hg : B ≤ g) (cs : Array Value) : Below B a (w.setRow g cs) :=
  h.trans ⟨rfl, rfl, rfl, by simp [World.setRow], fun k hk => by simp only [World.setRow, Array.getElem?_modify]; rw [if_neg (by omega)]⟩
theorem zero_is : (0 : Nat) = 0 := rfl
theorem zero_run (w : World) : (zeroValue 76).run Tryd.prog w = .ok (.agg zero256) w := by kernel_rfl
set_option maxRecDepth 100000 in
set_option maxHeartbeats 1000000 in
theorem tabled_any (s : ByteArray) (w : World) (hs : s.size ≤ 255) :
    Calls Tryd.prog 36 #[.string s] w fun e w' => e = .returned (.agg (tabUp s.data.toList s.size)) ∧ Below w.heap.size w w' := by
  have hll : s.data.toList.length = s.size := Array.length_toList
  have hzr := zero_run
  go_enter Tryd.func36, Tryd.ntmps36
  go_wp2_with fail
  (try rw [zero_is])
  clear hzr
  have hA0 := heap_alloc2_old w (.cells zero256 76) (.cells zero256 76)
  have hB0 := heap_alloc2_new w (.cells zero256 76) (.cells zero256 76)
  have hb0 : Below w.heap.size w ((w.alloc (.cells zero256 76)).alloc (.cells zero256 76)) := ((Below.refl _ _).alloc (Nat.le_refl _) _).alloc (by simp) _
  generalize ((w.alloc (.cells zero256 76)).alloc (.cells zero256 76)) = w0 at *
  have H0 := hide (And.intro hA0 (And.intro hB0 hb0)); clear hA0 hB0 hb0
  go_loopw [4] (fun i wr => ∃ k : Nat, k ≤ s.size ∧ i = .int .i64 k ∧ Blk wr (w.heap.size + 1) 76 (tabUp s.data.toList k) ∧ Blk wr w.heap.size 76 (tabUp s.data.toList 0) ∧ Below w.heap.size w wr) (fun i _ => s.size - (RowKit.intOf i).toNat)
  case atStart => exact ⟨0, by omega, rfl, (unhide H0).2.1, (unhide H0).1, (unhide H0).2.2⟩
  case round =>
    clear H0
    obtain ⟨k, hk, rfl, hB, hA, hb⟩ := hrel
    rcases Nat.lt_or_ge k s.size with hlt | hge
    · have hix : (s[k]'hlt).toNat < 256 := s[k].toNat_lt
      obtain ⟨z, hz⟩ := tabUp_cell s.data.toList k s[k].toNat hix
      have c1 := (hB.cell s[k].toNat).trans hz
      have f1 := hB.frozen s[k].toNat
      have hgd : s.data.toList.getD k 0 = s[k] := by
        rw [List.getD_eq_getElem?_getD, List.getElem?_eq_getElem (by omega)]
        rfl
      have Hgd := Lib.hid hgd
      have Hh := hide (And.intro hB (And.intro hA hb)); clear hB hA hb hz hgd
      go_wp2_with fail
      go_roundw
      case rel =>
        obtain ⟨hB, hA, hb⟩ := unhide Hh
        refine ⟨k + 1, by omega, by go_num, ?_, hA.far (p := ⟨w.heap.size + 1, s[k].toNat, none⟩) (by simp) _, hb.setCell (by simp) _⟩
        rw [tabUp_succ, Hgd.out]
        exact hB.set_ _ _
      case measure => simp [RowKit.intOf]; omega
    · obtain rfl : k = s.size := by omega
      have szB := tabUp_size s.data.toList s.size
      have szA := tabUp_size s.data.toList 0
      have one := tabUp_one s.data.toList s.size
      obtain ⟨C, HC⟩ : ∃ C, Hid (tabUp s.data.toList s.size = C) := ⟨_, Lib.hid rfl⟩
      rw [HC.out] at hB szB one
      obtain ⟨D, HD⟩ : ∃ D, Hid (tabUp s.data.toList 0 = D) := ⟨_, Lib.hid rfl⟩
      rw [HD.out] at hA szA
      have HB := hide hB; have HA := hide hA; have Hb := hide hb; clear hA hB hb
      have SB := hide szB; have SA := hide szA; clear szA szB
      have ci : (Tryd.prog.info? 76).map (·.size) = some 256 := by kernel_rfl
      have Ci := hide ci; clear ci
      go_wp2_with (first | (refine wpList_load_row rfl 76 (.tmp 3) rfl (w.heap.size + 1) rfl 76 C (0, 0) _ (unhide HB) Tryd.underlying76 rfl ((unhide Ci).trans (by rw [unhide SB])) ?_) | (refine wpList_store_row rfl 76 (.tmp 2) _ rfl w.heap.size C rfl rfl 76 D (unhide HA) ((unhide Ci).trans (by rw [unhide SB])) ((unhide SA).trans (unhide SB).symm) one ?_))
      refine bodyPost_ret (results_cell_row rfl _ _ w.heap.size 76 C (0, 0) _ rfl (setRow_heap wr _ _ _ _ _ (unhide HA)) Tryd.underlying76 rfl ((unhide Ci).trans (by rw [unhide SB]))) rfl ?_
      exact ⟨by rw [HC.out], below_setRow (unhide Hb) (Nat.le_refl _) _⟩
theorem tab64_any (w : World) : Calls Tryd.prog 36 #[.string signsS] w fun e w' => e = .returned (.agg tab64) ∧ Below w.heap.size w w' := by
  refine (tabled_any signsS w (by decide)).mono ?_
  rintro e w' ⟨rfl, hb⟩
  exact ⟨by rw [show signsS.size = 64 from rfl, tab64_is], hb⟩
end Go.Proofs.YtphjpdnheaeghaaDoor

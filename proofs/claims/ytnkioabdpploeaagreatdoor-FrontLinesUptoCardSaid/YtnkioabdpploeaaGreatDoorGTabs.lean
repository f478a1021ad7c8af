/-
  Several texts in one: CONTRACT of package text: tabled, by a byte its place in an alphabet. | CONTRACT of package text: digits of six bits.
-/
import Derived.Test.YtnkioabdpploeaaGreatDoorRows
import Derived.StillTailTactics
import Derived.Deep.RegionHeld3
import Derived.Deep.RegionLaw
import Derived.Test.YtnkioabdpploeaaGreatDoorGBase
import Derived.Test.YtnkioabdpploeaaGreatDoorGDecs
set_option linter.unusedVariables false
set_option linter.unusedSimpArgs false
namespace Go.Proofs.YtnkioabdpploeaaGreatDoor
open Go.RowKit Go.Lib
def zero256 : Array Value := (List.replicate 256 (Value.int .u8 0)).toArray
/-- The table behind so many rounds. -/
def tabUp (al : List UInt8) (i : Nat) : Array Value := (List.range i).foldl (fun t j => t.setIfInBounds (al.getD j 0).toNat (.int .u8 ((j + 1 : Nat) : Int))) zero256
theorem tabUp_succ (al : List UInt8) (i : Nat) : tabUp al (i + 1) = (tabUp al i).setIfInBounds (al.getD i 0).toNat (.int .u8 ((i + 1 : Nat) : Int)) := by
  unfold tabUp
  rw [List.range_succ, List.foldl_append]
  rfl
theorem tabUp_cell (al : List UInt8) (i : Nat) (c : Nat) (hc : c < 256) : ∃ z : Int, (tabUp al i)[c]? = some (.int .u8 z) := by
  induction i with
  | zero =>
    refine ⟨0, ?_⟩
    show zero256[c]? = _
    unfold zero256
    rw [List.getElem?_toArray, List.getElem?_replicate, if_pos hc]
  | succ i ih =>
    rw [tabUp_succ]
    obtain ⟨z, hz⟩ := ih
    rw [Array.getElem?_setIfInBounds]
    split
    · have hlt : c < (tabUp al i).size := by
        rcases Nat.lt_or_ge c (tabUp al i).size with h | h
        · exact h
        · rw [Array.getElem?_eq_none h] at hz; cases hz
      rename_i e
      rw [if_pos (by omega)]
      exact ⟨_, rfl⟩
    · exact ⟨z, hz⟩
theorem tabUp_size (al : List UInt8) (i : Nat) : (tabUp al i).size = 256 := by
  induction i with
  | zero =>
    show zero256.size = 256
    unfold zero256
    rw [List.size_toArray, List.length_replicate]
  | succ i ih => rw [tabUp_succ, Array.size_setIfInBounds, ih]
theorem tabUp_one (al : List UInt8) (i : Nat) : (tabUp al i).all (·.oneCell') = true := by
  rw [Array.all_eq_true]
  intro c hc
  rw [tabUp_size] at hc
  obtain ⟨z, hz⟩ := tabUp_cell al i c hc
  have := (Array.getElem?_eq_some_iff.1 hz).2
  rw [this]
  rfl
theorem below_setRow {B : Nat} {a w : World} (h : Below B a w) {g : Nat} (hg : B ≤ g) (cs : Array Value) : Below B a (w.setRow g cs) :=
  h.trans ⟨rfl, rfl, rfl, by simp [World.setRow], fun k hk => by simp only [World.setRow, Array.getElem?_modify]; rw [if_neg (by omega)]⟩
theorem zero_is : Tryz.zeroCells125 = zero256 := by kernel_rfl
theorem zero_run (w : World) : (zeroValue 125).run Tryz.prog w = .ok (.agg zero256) w := by kernel_rfl
set_option maxRecDepth 100000 in
set_option maxHeartbeats 1000000 in
theorem tabled_any (s : ByteArray) (w : World) (hs : s.size ≤ 255) :
    Calls Tryz.prog 68 #[.string s] w fun e w' => e = .returned (.agg (tabUp s.data.toList s.size)) ∧ Below w.heap.size w w' := by
  have hll : s.data.toList.length = s.size := Array.length_toList
  have hzr := zero_run
  go_enter Tryz.func68, Tryz.ntmps68
  go_wp2_with fail
  (try rw [zero_is])
  clear hzr
  have hA0 := heap_alloc2_old w (.cells zero256 125) (.cells zero256 125)
  have hB0 := heap_alloc2_new w (.cells zero256 125) (.cells zero256 125)
  have hb0 : Below w.heap.size w ((w.alloc (.cells zero256 125)).alloc (.cells zero256 125)) := ((Below.refl _ _).alloc (Nat.le_refl _) _).alloc (by simp) _
  generalize ((w.alloc (.cells zero256 125)).alloc (.cells zero256 125)) = w0 at *
  have H0 := hide (And.intro hA0 (And.intro hB0 hb0)); clear hA0 hB0 hb0
  go_loopw [4] (fun i wr => ∃ k : Nat, k ≤ s.size ∧ i = .int .i64 k ∧ Blk wr (w.heap.size + 1) 125 (tabUp s.data.toList k) ∧ Blk wr w.heap.size 125 (tabUp s.data.toList 0) ∧ Below w.heap.size w wr) (fun i _ => s.size - (RowKit.intOf i).toNat)
  case atStart => exact ⟨0, by omega, rfl, (unhide H0).2.1, (unhide H0).1, (unhide H0).2.2⟩
  case round =>
    clear H0
    obtain ⟨k, hk, rfl, hB, hA, hb⟩ := hrel
    rcases Nat.lt_or_ge k s.size with hlt | hge
    · have hix : (s[k]'hlt).toNat < 256 := s[k].toNat_lt
      obtain ⟨z, hz⟩ := tabUp_cell s.data.toList k s[k].toNat hix
      have c1 := (hB.cell s[k].toNat).trans hz
      have f1 := hB.frozen s[k].toNat
      have hgd : s.data.toList.getD k 0 = s[k] := by
        rw [List.getD_eq_getElem?_getD, List.getElem?_eq_getElem (by omega)]
        rfl
      have Hgd := Lib.hid hgd
      have Hh := hide (And.intro hB (And.intro hA hb)); clear hB hA hb hz hgd
      go_wp2_with fail
      go_roundw
      case rel =>
        obtain ⟨hB, hA, hb⟩ := unhide Hh
        refine ⟨k + 1, by omega, by go_num, ?_, hA.far (p := ⟨w.heap.size + 1, s[k].toNat, none⟩) (by simp) _, hb.setCell (by simp) _⟩
        rw [tabUp_succ, Hgd.out]
        exact hB.set_ _ _
      case measure => simp [RowKit.intOf]; omega
    · obtain rfl : k = s.size := by omega
      have szB := tabUp_size s.data.toList s.size
      have szA := tabUp_size s.data.toList 0
      have one := tabUp_one s.data.toList s.size
      obtain ⟨C, HC⟩ : ∃ C, Hid (tabUp s.data.toList s.size = C) := ⟨_, Lib.hid rfl⟩
      rw [HC.out] at hB szB one
      obtain ⟨D, HD⟩ : ∃ D, Hid (tabUp s.data.toList 0 = D) := ⟨_, Lib.hid rfl⟩
      rw [HD.out] at hA szA
      have HB := hide hB; have HA := hide hA; have Hb := hide hb; clear hA hB hb
      have SB := hide szB; have SA := hide szA; clear szA szB
      have ci : (Tryz.prog.info? 125).map (·.size) = some 256 := by kernel_rfl
      have Ci := hide ci; clear ci
      go_wp2_with (first | (refine wpList_load_row rfl 125 (.tmp 3) rfl (w.heap.size + 1) rfl 125 C (0, 0) _ (unhide HB) Tryz.underlying125 rfl ((unhide Ci).trans (by rw [unhide SB])) ?_) | (refine wpList_store_row rfl 125 (.tmp 2) _ rfl w.heap.size C rfl rfl 125 D (unhide HA) ((unhide Ci).trans (by rw [unhide SB])) ((unhide SA).trans (unhide SB).symm) one ?_))
      refine bodyPost_ret (results_cell_row rfl _ _ w.heap.size 125 C (0, 0) _ rfl (setRow_heap wr _ _ _ _ _ (unhide HA)) Tryz.underlying125 rfl ((unhide Ci).trans (by rw [unhide SB]))) rfl ?_
      exact ⟨by rw [HC.out], below_setRow (unhide Hb) (Nat.le_refl _) _⟩
end Go.Proofs.YtnkioabdpploeaaGreatDoor

set_option linter.unusedVariables false
set_option linter.unusedSimpArgs false
namespace Go.Proofs.YtnkioabdpploeaaGreatDoor
open Go.RowKit Go.Lib
theorem step_appB {ops : Array Oper} {o : Oper} {a : Act} {K : Act → World → Prop} {Q : Exit → Act → World → Prop} {E : Prop} {w : World} (hgd : o.guard = none) (s x : Operand)
    (ho : o.op = .call { callee := .builtin .append, args := #[s, x], argTypes := #[84, 84] })
    {base : Nat} {v : Value} {bs : List UInt8} (hown : OwnB w base v bs) (hs : a.eval s = v) (ad : Addr) (m c : Nat) (nb : List UInt8) (hx : a.eval x = .slice (some ad) m c) (hm : nb.length = m)
    (hnews : ∀ j u, (byteCells nb)[j]? = some u → w.cell? (ad.add j) = some u) (h47 : bs.length + m ≤ 140737488355328) (hbase : base ≤ w.heap.size)
    (h : ∀ v' w', OwnB w' base v' (bs ++ nb) → w.grownBy w' v.ownBlock → (v'.ownBlock = v.ownBlock ∨ v'.ownBlock = some w.heap.size) → K (a.put o.dst v') w') :
    if Region.wanted o (yielded ops a.tmps) = true then Oper.wp Tryz.prog o a w K Q else E := by
  have hw : Region.wanted o (yielded ops a.tmps) = true := by simp [Region.wanted, hgd]
  rw [if_pos hw]
  obtain ⟨v', w', hr, h2, h3, h4⟩ := run_app_cells w o.type base v bs hown ad m c nb hm hnews h47 hbase
  unfold Oper.wp execOp
  simp only [ho, resolve, invoke, builtin, Sem.run_bind, Sem.run_pure, Result.andThen_ok, List.map_toArray, List.map_cons, List.map_nil, hs, hx, hr]
  exact h v' w' h2 h3 h4
theorem OwnB.some {w : World} {base : Nat} {v : Value} {bs : List UInt8} (h : OwnB w base v bs) (hne : bs ≠ []) : ∃ g cap, v = .slice (some ⟨g, 0, none⟩) bs.length cap := by
  rcases h.form with ⟨_, he⟩ | ⟨g, cap, hv, _⟩
  · exact absurd he hne
  · exact ⟨g, cap, hv⟩
end Go.Proofs.YtnkioabdpploeaaGreatDoor

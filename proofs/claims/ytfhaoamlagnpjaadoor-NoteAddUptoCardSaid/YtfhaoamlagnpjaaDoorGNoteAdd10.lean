/-
  Several texts in one: CONTRACT of package text: tabled, by a byte its place in an alphabet. | CONTRACT of package text: digits of six bits. | CONTRACT of package text: the closure of digits, with 2 bits held. | CONTRACT of package text: the closure of digits, with 4 bits held. | CONTRACT of package text: the closure of digits, with 6 bits held. | CONTRACT of package text: digits of six bits each, and base64 is read.
-/
import Derived.Test.YtfhaoamlagnpjaaDoorRows
import Derived.StillTailTactics
import Derived.Deep.RegionHeld3
import Derived.Deep.RegionLaw
import Derived.Test.YtfhaoamlagnpjaaDoorGNoteAdd1
import Derived.Test.YtfhaoamlagnpjaaDoorGNoteAdd3
import Derived.Test.YtfhaoamlagnpjaaDoorGNoteAdd9
import Derived.Test.YtfhaoamlagnpjaaDoorGNoteAdd2
set_option linter.unusedVariables false
set_option linter.unusedSimpArgs false
namespace Go.Proofs.YtfhaoamlagnpjaaDoor
open Go.RowKit Go.Lib
def zero256 : Array Value := (List.replicate 256 (Value.int .u8 0)).toArray
/-- The table behind so many rounds. -/
def tabUp (al : List UInt8) (i : Nat) : Array Value := (List.range i).foldl (fun t j => t.setIfInBounds (al.getD j 0).toNat (.int .u8 ((j + 1 : Nat) : Int))) zero256
theorem tabUp_succ (al : List UInt8) (i : Nat) : tabUp al (i + 1) = (tabUp al i).setIfInBounds (al.getD i 0).toNat (.int .u8 ((i + 1 : Nat) : Int)) := by
  unfold tabUp
  rw [List.range_succ, List.foldl_append]
  rfl
theorem tabUp_cell (al : List UInt8) (i : Nat) (c : Nat) (hc : c < 256) : ∃ z : Int, (tabUp al i)[c]? = some (.int .u8 z) := by
  induction i with
  | zero =>
    refine ⟨0, ?_⟩
    show zero256[c]? = _
    unfold zero256
    rw [List.getElem?_toArray, List.getElem?_replicate, if_pos hc]
  | succ i ih =>
    rw [tabUp_succ]
    obtain ⟨z, hz⟩ := ih
    rw [Array.getElem?_setIfInBounds]
    split
    · have hlt : c < (tabUp al i).size := by
        rcases Nat.lt_or_ge c (tabUp al i).size with h | h
        · exact h
        · rw [Array.getElem?_eq_none h] at hz; cases hz
      rename_i e
      rw [if_pos (by omega)]
      exact ⟨_, rfl⟩
    · exact ⟨z, hz⟩
/-- The table of the sixty-four signs. -/
def tab64 : Array Value := ((List.range 256).map fun c => Value.int .u8 ((tabv c.toUInt8 : Nat) : Int)).toArray
theorem tab64_is : tabUp signsS.data.toList 64 = tab64 := by kernel_rfl
theorem tab64_at (c : UInt8) : tab64[c.toNat]? = some (.int .u8 ((tabv c : Nat) : Int)) := by
  have h := c.toNat_lt
  unfold tab64
  rw [List.getElem?_toArray, List.getElem?_map, List.getElem?_range h]
  simp
theorem tabUp_size (al : List UInt8) (i : Nat) : (tabUp al i).size = 256 := by
  induction i with
  | zero =>
    show zero256.size = 256
    unfold zero256
    rw [List.size_toArray, List.length_replicate]
  | succ i ih => rw [tabUp_succ, Array.size_setIfInBounds, ih]
theorem tabUp_one (al : List UInt8) (i : Nat) : (tabUp al i).all (·.oneCell') = true := by
  rw [Array.all_eq_true]
  intro c hc
  rw [tabUp_size] at hc
  obtain ⟨z, hz⟩ := tabUp_cell al i c hc
  have := (Array.getElem?_eq_some_iff.1 hz).2
  rw [this]
  rfl
theorem below_setRow {B : Nat} {a w : World} (h : Below B a w) {g : Nat} (hg : B ≤ g) (cs : Array Value) : Below B a (w.setRow g cs) :=
  h.trans ⟨rfl, rfl, rfl, by simp [World.setRow], fun k hk => by simp only [World.setRow, Array.getElem?_modify]; rw [if_neg (by omega)]⟩
theorem zero_is : Tryd.zeroCells121 = zero256 := by kernel_rfl
set_option maxRecDepth 100000 in
set_option maxHeartbeats 1000000 in
theorem tabled_any (s : ByteArray) (w : World) (hs : s.size ≤ 255) :
    Calls Tryd.prog 84 #[.string s] w fun e w' => e = .returned (.agg (tabUp s.data.toList s.size)) ∧ Below w.heap.size w w' := by
  have hll : s.data.toList.length = s.size := Array.length_toList
  go_enter Tryd.func84, Tryd.ntmps84
  go_wp2_with fail
  rw [zero_is]
  have hA0 := heap_alloc2_old w (.cells zero256 121) (.cells zero256 121)
  have hB0 := heap_alloc2_new w (.cells zero256 121) (.cells zero256 121)
  have hb0 : Below w.heap.size w ((w.alloc (.cells zero256 121)).alloc (.cells zero256 121)) := ((Below.refl _ _).alloc (Nat.le_refl _) _).alloc (by simp) _
  generalize ((w.alloc (.cells zero256 121)).alloc (.cells zero256 121)) = w0 at *
  have H0 := hide (And.intro hA0 (And.intro hB0 hb0)); clear hA0 hB0 hb0
  go_loopw [4] (fun i wr => ∃ k : Nat, k ≤ s.size ∧ i = .int .i64 k ∧ Blk wr (w.heap.size + 1) 121 (tabUp s.data.toList k) ∧ Blk wr w.heap.size 121 (tabUp s.data.toList 0) ∧ Below w.heap.size w wr) (fun i _ => s.size - (RowKit.intOf i).toNat)
  case atStart => exact ⟨0, by omega, rfl, (unhide H0).2.1, (unhide H0).1, (unhide H0).2.2⟩
  case round =>
    clear H0
    obtain ⟨k, hk, rfl, hB, hA, hb⟩ := hrel
    rcases Nat.lt_or_ge k s.size with hlt | hge
    · have hix : (s[k]'hlt).toNat < 256 := s[k].toNat_lt
      obtain ⟨z, hz⟩ := tabUp_cell s.data.toList k s[k].toNat hix
      have c1 := (hB.cell s[k].toNat).trans hz
      have f1 := hB.frozen s[k].toNat
      have hgd : s.data.toList.getD k 0 = s[k] := by
        rw [List.getD_eq_getElem?_getD, List.getElem?_eq_getElem (by omega)]
        rfl
      have Hgd := Lib.hid hgd
      have Hh := hide (And.intro hB (And.intro hA hb)); clear hB hA hb hz hgd
      go_wp2_with fail
      go_roundw
      case rel =>
        obtain ⟨hB, hA, hb⟩ := unhide Hh
        refine ⟨k + 1, by omega, by go_num, ?_, hA.far (p := ⟨w.heap.size + 1, s[k].toNat, none⟩) (by simp) _, hb.setCell (by simp) _⟩
        rw [tabUp_succ, Hgd.out]
        exact hB.set_ _ _
      case measure => simp [RowKit.intOf]; omega
    · obtain rfl : k = s.size := by omega
      have szB := tabUp_size s.data.toList s.size
      have szA := tabUp_size s.data.toList 0
      have one := tabUp_one s.data.toList s.size
      obtain ⟨C, HC⟩ : ∃ C, Hid (tabUp s.data.toList s.size = C) := ⟨_, Lib.hid rfl⟩
      rw [HC.out] at hB szB one
      obtain ⟨D, HD⟩ : ∃ D, Hid (tabUp s.data.toList 0 = D) := ⟨_, Lib.hid rfl⟩
      rw [HD.out] at hA szA
      have HB := hide hB; have HA := hide hA; have Hb := hide hb; clear hA hB hb
      have SB := hide szB; have SA := hide szA; clear szA szB
      have ci : (Tryd.prog.info? 121).map (·.size) = some 256 := by kernel_rfl
      have Ci := hide ci; clear ci
      go_wp2_with (first | (refine wpList_load_row rfl 121 (.tmp 3) rfl (w.heap.size + 1) rfl 121 C (0, 0) _ (unhide HB) Tryd.underlying121 rfl ((unhide Ci).trans (by rw [unhide SB])) ?_) | (refine wpList_store_row rfl 121 (.tmp 2) _ rfl w.heap.size C rfl rfl 121 D (unhide HA) ((unhide Ci).trans (by rw [unhide SB])) ((unhide SA).trans (unhide SB).symm) one ?_))
      refine bodyPost_ret (results_cell_row rfl _ _ w.heap.size 121 C (0, 0) _ rfl (setRow_heap wr _ _ _ _ _ (unhide HA)) Tryd.underlying121 rfl ((unhide Ci).trans (by rw [unhide SB]))) rfl ?_
      exact ⟨by rw [HC.out], below_setRow (unhide Hb) (Nat.le_refl _) _⟩
theorem tab64_any (w : World) : Calls Tryd.prog 84 #[.string signsS] w fun e w' => e = .returned (.agg tab64) ∧ Below w.heap.size w w' := by
  refine (tabled_any signsS w (by decide)).mono ?_
  rintro e w' ⟨rfl, hb⟩
  exact ⟨by rw [show signsS.size = 64 from rfl, tab64_is], hb⟩
end Go.Proofs.YtfhaoamlagnpjaaDoor

set_option linter.unusedVariables false
set_option linter.unusedSimpArgs false
namespace Go.Proofs.YtfhaoamlagnpjaaDoor
open Go.RowKit Go.Lib
theorem step_appB {ops : Array Oper} {o : Oper} {a : Act} {K : Act → World → Prop} {Q : Exit → Act → World → Prop} {E : Prop} {w : World} (hgd : o.guard = none) (s x : Operand)
    (ho : o.op = .call { callee := .builtin .append, args := #[s, x], argTypes := #[75, 75] })
    {base : Nat} {v : Value} {bs : List UInt8} (hown : OwnB w base v bs) (hs : a.eval s = v) (ad : Addr) (m c : Nat) (nb : List UInt8) (hx : a.eval x = .slice (some ad) m c) (hm : nb.length = m)
    (hnews : ∀ j u, (byteCells nb)[j]? = some u → w.cell? (ad.add j) = some u) (h47 : bs.length + m ≤ 140737488355328) (hbase : base ≤ w.heap.size)
    (h : ∀ v' w', OwnB w' base v' (bs ++ nb) → w.grownBy w' v.ownBlock → (v'.ownBlock = v.ownBlock ∨ v'.ownBlock = some w.heap.size) → K (a.put o.dst v') w') :
    if Region.wanted o (yielded ops a.tmps) = true then Oper.wp Tryd.prog o a w K Q else E := by
  have hw : Region.wanted o (yielded ops a.tmps) = true := by simp [Region.wanted, hgd]
  rw [if_pos hw]
  obtain ⟨v', w', hr, h2, h3, h4⟩ := run_app_cells w o.type base v bs hown ad m c nb hm hnews h47 hbase
  unfold Oper.wp execOp
  simp only [ho, resolve, invoke, builtin, Sem.run_bind, Sem.run_pure, Result.andThen_ok, List.map_toArray, List.map_cons, List.map_nil, hs, hx, hr]
  exact h v' w' h2 h3 h4
theorem news1 (w : World) (z : Int) (x : UInt8) (hz : IntKind.u8.wrap z = (x.toNat : Int)) : ∀ j u, (byteCells [x])[j]? = some u → ((w.alloc (.cells #[.int .u8 (IntKind.u8.wrap z)] 5)).drew).cell? ((⟨w.heap.size, 0, none⟩ : Addr).add j) = some u := by
  intro j u h
  have hadd : (⟨w.heap.size, 0, none⟩ : Addr).add j = ⟨w.heap.size, j, none⟩ := by unfold Addr.add; split <;> simp_all
  rw [hadd, ((Blk.new w 5 _).drew).cell j, ← h, hz]
  simp [byteCells]
theorem u8_wrap4 (x : Nat) : IntKind.u8.wrap ((x : Int) / 4) = (((x / 4).toUInt8).toNat : Int) := by
  have e : ((x / 4).toUInt8).toNat = (x / 4) % 256 := UInt8.toNat_ofNat' ..
  rw [e]
  simp [IntKind.wrap, IntKind.bits, IntKind.signed]
theorem u8_wrap16 (x : Nat) : IntKind.u8.wrap ((x : Int) / 16) = (((x / 16).toUInt8).toNat : Int) := by
  have e : ((x / 16).toUInt8).toNat = (x / 16) % 256 := UInt8.toNat_ofNat' ..
  rw [e]
  simp [IntKind.wrap, IntKind.bits, IntKind.signed]
theorem u8_wrap (x : Nat) : IntKind.u8.wrap (x : Int) = ((x.toUInt8).toNat : Int) := by
  have e : (x.toUInt8).toNat = x % 256 := UInt8.toNat_ofNat' ..
  rw [e]
  simp [IntKind.wrap, IntKind.bits, IntKind.signed]
theorem OwnB.some {w : World} {base : Nat} {v : Value} {bs : List UInt8} (h : OwnB w base v bs) (hne : bs ≠ []) : ∃ g cap, v = .slice (some ⟨g, 0, none⟩) bs.length cap := by
  rcases h.form with ⟨_, he⟩ | ⟨g, cap, hv, _⟩
  · exact absurd he hne
  · exact ⟨g, cap, hv⟩
theorem digF_enters : Enters Tryd.prog 106 := enters_of Tryd.func106 (by kernel_rfl) rfl
/-- What the closure's boxes hold. -/
def DigAt (base gt gh gb gn go : Nat) (st : Nat × Nat × List UInt8) (w : World) : Prop :=
  Blk w gt 121 tab64 ∧ Blk w gh 3 #[.int .i64 (st.1 : Int)] ∧ Blk w gb 3 #[.int .i64 6] ∧ Blk w gn 3 #[.int .i64 (st.2.1 : Int)] ∧ ∃ v, Blk w go 75 #[v] ∧ OwnB w base v st.2.2
set_option maxRecDepth 100000 in
set_option maxHeartbeats 1000000 in
theorem digF_no (c : UInt8) (base gt gh gb gn go : Nat) (st : Nat × Nat × List UInt8) (w : World) (h : DigAt base gt gh gb gn go st w) (hc : tabv c = 0) :
    Calls Tryd.prog 106 #[.int .u8 (c.toNat : Int), .pointer (some ⟨gt, 0, none⟩), .pointer (some ⟨gh, 0, none⟩), .pointer (some ⟨gb, 0, none⟩), .pointer (some ⟨gn, 0, none⟩), .pointer (some ⟨go, 0, none⟩)] w fun e w' => e = .returned (.bool false) ∧ w' = w := by
  have c0 := h.1.cell c.toNat
  rw [tab64_at, hc] at c0
  have hcl : (c.toNat : Int) < 256 := by have := c.toNat_lt; omega
  clear h
  go_enter Tryd.func106, Tryd.ntmps106
  go_wp2
  go_ret
  exact ⟨rfl, rfl⟩
theorem or6 (h d : Nat) (hh : h < 64) (hd : d < 64) : bits .or .i64 ((h : Int) * 64) (d : Int) = ((h * 64 + d : Nat) : Int) := by
  have e1 : h * 64 ||| d = h * 64 + d := by
    have := Nat.shiftLeft_add_eq_or_of_lt (b := d) (i := 6) (by omega) h
    rw [Nat.shiftLeft_eq] at this
    exact this.symm
  have a := i64_or_nat (h * 64) d (by omega) (by omega)
  rw [e1] at a
  rw [show ((h : Int) * 64) = ((h * 64 : Nat) : Int) from by omega, a]
/-- The boxes lie apart from one another, below the own rows, and above the caller's. -/
def DigNe (B0 base gt gh gb gn go : Nat) : Prop := (gh ≠ gt ∧ gh ≠ gb ∧ gh ≠ go ∧ gh ≠ gn ∧ gn ≠ gt ∧ gn ≠ gb ∧ gn ≠ go ∧ go ≠ gt ∧ go ≠ gb) ∧ gt < base ∧ gh < base ∧ gb < base ∧ gn < base ∧ go < base ∧ B0 ≤ gh ∧ B0 ≤ gn ∧ B0 ≤ go ∧ B0 ≤ base
set_option maxRecDepth 100000 in
set_option maxHeartbeats 1000000 in
theorem digF_zero (c : UInt8) (B0 base gt gh gb gn go : Nat) (h : Nat) (out : List UInt8) (w : World) (hD : DigAt base gt gh gb gn go (h, 0, out) w) (hh : h < 64) (hc : tabv c ≠ 0) (hne : DigNe B0 base gt gh gb gn go) :
    Calls Tryd.prog 106 #[.int .u8 (c.toNat : Int), .pointer (some ⟨gt, 0, none⟩), .pointer (some ⟨gh, 0, none⟩), .pointer (some ⟨gb, 0, none⟩), .pointer (some ⟨gn, 0, none⟩), .pointer (some ⟨go, 0, none⟩)] w fun e w' => e = .returned (.bool true) ∧ DigAt base gt gh gb gn go (digStep (h, 0, out) (tabv c - 1)) w' ∧ Below B0 w w' := by
  have c0 := hD.1.cell c.toNat
  rw [tab64_at] at c0
  have hcl : (c.toNat : Int) < 256 := by have := c.toNat_lt; omega
  have htv := tabv_le c
  obtain ⟨d, hd⟩ : ∃ d, tabv c = d + 1 := ⟨tabv c - 1, by omega⟩
  rw [hd] at c0
  have hd63 : d ≤ 63 := by omega
  have c1 := hD.2.1.cell 0
  have c2 := hD.2.2.1.cell 0
  have c3 := hD.2.2.2.1.cell 0
  have f1 := hD.2.1.frozen 0
  have f3 := hD.2.2.2.1.frozen 0
  simp only [List.getElem?_toArray, List.getElem?_cons_zero] at c1 c2 c3
  have hor := or6 h d hh (by omega)
  have h64 : h ≤ 63 := by omega
  have HD := hide hD; have HN := hide hne
  clear hD hc htv hh
  go_enter Tryd.func106, Tryd.ntmps106
  go_wp2
  obtain ⟨⟨n2, n3, n4, hgn, n5, n6, n7, n12, n13⟩, -⟩ := hne
  have n1 : gn ≠ gh := Ne.symm hgn
  have n8 := n2.symm; have n9 := n3.symm; have n10 := n5.symm; have n11 := n6.symm
  go_region
  go_wp2
  go_ret
  obtain ⟨d1, d2, d3, d4, v, d5, d6⟩ := unhide HD
  obtain ⟨-, o1, o2, o3, o4, o5, o6, o7, o8, o9⟩ := unhide HN
  have e1 : v.ownBlock ≠ some gh := fun e => by have := (d6.lt _ e).1; omega
  have e2 : v.ownBlock ≠ some gn := fun e => by have := (d6.lt _ e).1; omega
  refine ⟨rfl, ?_, (((Below.refl _ _).setCell (p := ⟨gh, 0, none⟩) o6 _).setCell (p := ⟨gn, 0, none⟩) o7 _).drew⟩
  have hst : digStep (h, 0, out) (tabv c - 1) = (h * 64 + d, 6, out) := by rw [hd]; rfl
  rw [hst]
  refine ⟨((d1.far (p := ⟨gh, 0, none⟩) n8 _).far (p := ⟨gn, 0, none⟩) n10 _).drew, ((d2.set_ 0 _).far (p := ⟨gn, 0, none⟩) hgn _).drew, ((d3.far (p := ⟨gh, 0, none⟩) n9 _).far (p := ⟨gn, 0, none⟩) n11 _).drew, ((d4.far (p := ⟨gh, 0, none⟩) n1 _).set_ 0 _).drew, v, ((d5.far (p := ⟨gh, 0, none⟩) n4.symm _).far (p := ⟨gn, 0, none⟩) n7.symm _).drew, ((d6.setCell (p := ⟨gh, 0, none⟩) e1 _).setCell (p := ⟨gn, 0, none⟩) e2 _).drew⟩
end Go.Proofs.YtfhaoamlagnpjaaDoor

set_option linter.unusedVariables false
set_option linter.unusedSimpArgs false
namespace Go.Proofs.YtfhaoamlagnpjaaDoor
open Go.RowKit Go.Lib
set_option maxRecDepth 100000 in
set_option maxHeartbeats 2000000 in
theorem digF_two (c : UInt8) (B0 base gt gh gb gn go : Nat) (h : Nat) (out : List UInt8) (w : World) (hD : DigAt base gt gh gb gn go (h, 2, out) w) (hh : h < 64) (hc : tabv c ≠ 0) (hne : DigNe B0 base gt gh gb gn go) (hbase : base ≤ w.heap.size) (hlen : out.length + 1 ≤ 140737488355328) :
    Calls Tryd.prog 106 #[.int .u8 (c.toNat : Int), .pointer (some ⟨gt, 0, none⟩), .pointer (some ⟨gh, 0, none⟩), .pointer (some ⟨gb, 0, none⟩), .pointer (some ⟨gn, 0, none⟩), .pointer (some ⟨go, 0, none⟩)] w fun e w' => e = .returned (.bool true) ∧ DigAt base gt gh gb gn go (digStep (h, 2, out) (tabv c - 1)) w' ∧ Below B0 w w' := by
  have c0 := hD.1.cell c.toNat
  rw [tab64_at] at c0
  have hcl : (c.toNat : Int) < 256 := by have := c.toNat_lt; omega
  have htv := tabv_le c
  obtain ⟨d, hd⟩ : ∃ d, tabv c = d + 1 := ⟨tabv c - 1, by omega⟩
  rw [hd] at c0
  have hd63 : d ≤ 63 := by omega
  have c1 := hD.2.1.cell 0
  have c2 := hD.2.2.1.cell 0
  have c3 := hD.2.2.2.1.cell 0
  have f1 := hD.2.1.frozen 0
  have f3 := hD.2.2.2.1.frozen 0
  simp only [List.getElem?_toArray, List.getElem?_cons_zero] at c1 c2 c3
  have hor := or6 h d hh (by omega)
  have h64 : h ≤ 63 := by omega
  have HD := hide hD; have HB := hide hbase; have HN := hide hne
  clear hD hc htv hh hbase
  go_enter Tryd.func106, Tryd.ntmps106
  go_wp2
  obtain ⟨⟨n2, n3, n4, hgn, n5, n6, n7, n12, n13⟩, -⟩ := hne
  have n1 : gn ≠ gh := Ne.symm hgn
  have n8 := n2.symm; have n9 := n3.symm; have n10 := n5.symm; have n11 := n6.symm
  go_region
  go_wp2
  have hx : Hid (∃ x : Nat, (h : Int) * 64 + (d : Int) = (x : Int) ∧ x = h * 64 + d) := ⟨h * 64 + d, by omega, rfl⟩
  obtain ⟨x, hx1, hx2⟩ := hx.out
  rw [hx1]
  have hD2 : DigAt base gt gh gb gn go (x, 0, out) (((w.setCell ⟨gh, 0, none⟩ (.int .i64 (x : Int))).setCell ⟨gn, 0, none⟩ (.int .i64 8)).setCell ⟨gn, 0, none⟩ (.int .i64 0)).drew := by
    obtain ⟨d1, d2, d3, d4, v, d5, d6⟩ := unhide HD
    obtain ⟨-, o1, o2, o3, o4, o5, o6, o7, o8, o9⟩ := unhide HN
    have e1 : v.ownBlock ≠ some gh := fun e => by have := (d6.lt _ e).1; omega
    have e2 : v.ownBlock ≠ some gn := fun e => by have := (d6.lt _ e).1; omega
    exact ⟨(((d1.far (p := ⟨gh, 0, none⟩) n8 _).far (p := ⟨gn, 0, none⟩) n10 _).far (p := ⟨gn, 0, none⟩) n10 _).drew, (((d2.set_ 0 _).far (p := ⟨gn, 0, none⟩) hgn _).far (p := ⟨gn, 0, none⟩) hgn _).drew, (((d3.far (p := ⟨gh, 0, none⟩) n9 _).far (p := ⟨gn, 0, none⟩) n11 _).far (p := ⟨gn, 0, none⟩) n11 _).drew, (((d4.far (p := ⟨gh, 0, none⟩) n1 _).set_ 0 _).set_ 0 _).drew, v, (((d5.far (p := ⟨gh, 0, none⟩) n4.symm _).far (p := ⟨gn, 0, none⟩) n7.symm _).far (p := ⟨gn, 0, none⟩) n7.symm _).drew, (((d6.setCell (p := ⟨gh, 0, none⟩) e1 _).setCell (p := ⟨gn, 0, none⟩) e2 _).setCell (p := ⟨gn, 0, none⟩) e2 _).drew⟩
  have hb2 : Below B0 w (((w.setCell ⟨gh, 0, none⟩ (.int .i64 (x : Int))).setCell ⟨gn, 0, none⟩ (.int .i64 8)).setCell ⟨gn, 0, none⟩ (.int .i64 0)).drew := by
    obtain ⟨-, o1, o2, o3, o4, o5, o6, o7, o8, o9⟩ := unhide HN
    exact ((((Below.refl _ _).setCell (p := ⟨gh, 0, none⟩) o6 _).setCell (p := ⟨gn, 0, none⟩) o7 _).setCell (p := ⟨gn, 0, none⟩) o7 _).drew
  have hs2 : base ≤ (((w.setCell ⟨gh, 0, none⟩ (.int .i64 (x : Int))).setCell ⟨gn, 0, none⟩ (.int .i64 8)).setCell ⟨gn, 0, none⟩ (.int .i64 0)).drew.heap.size := by
    have := unhide HB
    simpa using this
  generalize (((w.setCell ⟨gh, 0, none⟩ (.int .i64 (x : Int))).setCell ⟨gn, 0, none⟩ (.int .i64 8)).setCell ⟨gn, 0, none⟩ (.int .i64 0)).drew = w1 at *
  clear c0 c1 c2 c3 f1 f3 HD HB
  obtain ⟨d1, d2, d3, d4, v, d5, d6⟩ := hD2
  have HE : Hid (v.ownBlock ≠ some gt ∧ v.ownBlock ≠ some gh ∧ v.ownBlock ≠ some gb ∧ v.ownBlock ≠ some gn ∧ v.ownBlock ≠ some go) := by
    obtain ⟨-, o1, o2, o3, o4, o5, o6, o7, o8, o9⟩ := unhide HN
    refine ⟨fun e => ?_, fun e => ?_, fun e => ?_, fun e => ?_, fun e => ?_⟩
    all_goals
      have := (d6.lt _ e).1
      omega
  have c1 := d2.cell 0
  have c3 := d4.cell 0
  have c5 := d5.cell 0
  simp only [List.getElem?_toArray, List.getElem?_cons_zero] at c1 c3 c5
  have hx12 : x ≤ 4095 := by omega
  have HX := hide (And.intro d1 (And.intro d2 (And.intro d3 (And.intro d4 (And.intro d5 (And.intro d6 hb2))))))
  have m1 := World.new_ne w1 _ c1
  have m3 := World.new_ne w1 _ c3
  have m5 := World.new_ne w1 _ c5
  have HX2 := Lib.hid hx2
  clear d1 d2 d3 d4 d5 d6 hx hx1 hor hx2 hb2
  have k5 : (w1.alloc (.cells #[.int .u8 (IntKind.u8.wrap (x : Int))] 5)).cell? ⟨go, 0, none⟩ = some v := ((unhide HX).2.2.2.2.1.alloc _).cell 0
  have hand : bits .and .i64 (x : Int) 0 = ((x % 1 : Nat) : Int) := by
    have h := i64_and_nat x 0 (by omega) (by omega)
    rw [show (0 : Nat) = 2 ^ 0 - 1 from rfl, Nat.and_two_pow_sub_one_eq_mod] at h
    exact h
  go_region_law (first | (refine step_appB rfl (.tmp 28) (.tmp 33) rfl ((unhide HX).2.2.2.2.2.1.alloc _).drew rfl ⟨w1.heap.size, 0, none⟩ 1 1 [x.toUInt8] rfl rfl (news1 w1 _ _ (u8_wrap x)) hlen (by have := hs2; simp; omega) ?_; intro v' w2 hO2 hg2 hat2; obtain ⟨g2, cap2, rfl⟩ := hO2.some (by simp); have c12 : w2.cell? ⟨gh, 0, none⟩ = some (.int .i64 (x : Int)) := (((unhide HX).2.1.alloc _).drew.grown hg2 (unhide HE).2.1.symm).cell 0; have c32 : w2.cell? ⟨gn, 0, none⟩ = some (.int .i64 0) := (((unhide HX).2.2.2.1.alloc _).drew.grown hg2 (unhide HE).2.2.2.1.symm).cell 0; have c52 : w2.cell? ⟨go, 0, none⟩ = some v := (((unhide HX).2.2.2.2.1.alloc _).drew.grown hg2 (unhide HE).2.2.2.2.symm).cell 0; have f52 := (((unhide HX).2.2.2.2.1.alloc (.cells #[.int .u8 (IntKind.u8.wrap (x : Int))] 5)).drew.grown hg2 (unhide HE).2.2.2.2.symm).frozen 0; have f12 := (((unhide HX).2.1.alloc (.cells #[.int .u8 (IntKind.u8.wrap (x : Int))] 5)).drew.grown hg2 (unhide HE).2.1.symm).frozen 0))
  all_goals (
    have H2 := hide (And.intro hO2 (And.intro hg2 hat2)); clear hO2 hg2 hat2 k5 c1 c3 c5
    go_wp2
    go_region
    go_wp2
    go_ret
    obtain ⟨hO2, hg2, hat2⟩ := unhide H2
    obtain ⟨d1, d2, d3, d4, d5, d6, hb2⟩ := unhide HX
    obtain ⟨e1, e2, e3, e4, e5⟩ := unhide HE
    obtain ⟨-, o1, o2, o3, o4, o5, o6, o7, o8, o9⟩ := unhide HN
    have hst : digStep (h, 2, out) (tabv c - 1) = (x % 1, 0, out ++ [x.toUInt8]) := by rw [hd, HX2.out]; rw [show (2 : Nat) = 2 from rfl]; unfold digStep; simp [Nat.mod_one]
    rw [hst]
    have hne2 : ∀ g, g < base → (Value.slice (some ⟨g2, 0, none⟩) (out ++ [x.toUInt8]).length cap2).ownBlock ≠ some g := fun g hg e => by have := (hO2.lt _ e).1; omega
    have hlen2 : (out ++ [x.toUInt8]).length = out.length + 1 := by simp
    rw [hlen2] at hO2 hne2
    have a1 := (((d1.alloc (.cells #[.int .u8 (IntKind.u8.wrap (x : Int))] 5)).drew.grown hg2 e1.symm).far (p := ⟨go, 0, none⟩) n12.symm (.slice (some ⟨g2, 0, none⟩) (out.length + 1) cap2)).far (p := ⟨gh, 0, none⟩) n8 (.int .i64 ((x % 1 : Nat) : Int))
    have a2 := (((d2.alloc (.cells #[.int .u8 (IntKind.u8.wrap (x : Int))] 5)).drew.grown hg2 e2.symm).far (p := ⟨go, 0, none⟩) n4 (.slice (some ⟨g2, 0, none⟩) (out.length + 1) cap2)).set_ 0 (.int .i64 ((x % 1 : Nat) : Int))
    have a3 := (((d3.alloc (.cells #[.int .u8 (IntKind.u8.wrap (x : Int))] 5)).drew.grown hg2 e3.symm).far (p := ⟨go, 0, none⟩) n13.symm (.slice (some ⟨g2, 0, none⟩) (out.length + 1) cap2)).far (p := ⟨gh, 0, none⟩) n9 (.int .i64 ((x % 1 : Nat) : Int))
    have a4 := (((d4.alloc (.cells #[.int .u8 (IntKind.u8.wrap (x : Int))] 5)).drew.grown hg2 e4.symm).far (p := ⟨go, 0, none⟩) n7 (.slice (some ⟨g2, 0, none⟩) (out.length + 1) cap2)).far (p := ⟨gh, 0, none⟩) n1 (.int .i64 ((x % 1 : Nat) : Int))
    have a5 := (((d5.alloc (.cells #[.int .u8 (IntKind.u8.wrap (x : Int))] 5)).drew.grown hg2 e5.symm).set_ 0 (.slice (some ⟨g2, 0, none⟩) (out.length + 1) cap2)).far (p := ⟨gh, 0, none⟩) n4.symm (.int .i64 ((x % 1 : Nat) : Int))
    have a6 := (hO2.setCell (p := ⟨go, 0, none⟩) (hne2 _ o5) (.slice (some ⟨g2, 0, none⟩) (out.length + 1) cap2)).setCell (p := ⟨gh, 0, none⟩) (hne2 _ o2) (.int .i64 ((x % 1 : Nat) : Int))
    have a7 : Below B0 w w2 := ((hb2.alloc (by have := hs2; omega) _).drew).grown hg2 (by have := hs2; simp; omega) (fun q hq => by have := (d6.lt _ hq).1; omega)
    have a8 := (a7.setCell (p := ⟨go, 0, none⟩) o8 (.slice (some ⟨g2, 0, none⟩) (out.length + 1) cap2)).setCell (p := ⟨gh, 0, none⟩) o6 (.int .i64 ((x % 1 : Nat) : Int))
    have hz : ((x % 1 : Nat) : Int) = 0 := by omega
    rw [hz] at a1 a2 a3 a4 a5 a6 a8
    refine ⟨rfl, ⟨a1.drew, ?_, a3.drew, a4.drew, _, a5.drew, a6.drew⟩, a8.drew⟩
    rw [hz]
    exact a2.drew)
end Go.Proofs.YtfhaoamlagnpjaaDoor

set_option linter.unusedVariables false
set_option linter.unusedSimpArgs false
namespace Go.Proofs.YtfhaoamlagnpjaaDoor
open Go.RowKit Go.Lib
set_option maxRecDepth 100000 in
set_option maxHeartbeats 2000000 in
theorem digF_four (c : UInt8) (B0 base gt gh gb gn go : Nat) (h : Nat) (out : List UInt8) (w : World) (hD : DigAt base gt gh gb gn go (h, 4, out) w) (hh : h < 64) (hc : tabv c ≠ 0) (hne : DigNe B0 base gt gh gb gn go) (hbase : base ≤ w.heap.size) (hlen : out.length + 1 ≤ 140737488355328) :
    Calls Tryd.prog 106 #[.int .u8 (c.toNat : Int), .pointer (some ⟨gt, 0, none⟩), .pointer (some ⟨gh, 0, none⟩), .pointer (some ⟨gb, 0, none⟩), .pointer (some ⟨gn, 0, none⟩), .pointer (some ⟨go, 0, none⟩)] w fun e w' => e = .returned (.bool true) ∧ DigAt base gt gh gb gn go (digStep (h, 4, out) (tabv c - 1)) w' ∧ Below B0 w w' := by
  have c0 := hD.1.cell c.toNat
  rw [tab64_at] at c0
  have hcl : (c.toNat : Int) < 256 := by have := c.toNat_lt; omega
  have htv := tabv_le c
  obtain ⟨d, hd⟩ : ∃ d, tabv c = d + 1 := ⟨tabv c - 1, by omega⟩
  rw [hd] at c0
  have hd63 : d ≤ 63 := by omega
  have c1 := hD.2.1.cell 0
  have c2 := hD.2.2.1.cell 0
  have c3 := hD.2.2.2.1.cell 0
  have f1 := hD.2.1.frozen 0
  have f3 := hD.2.2.2.1.frozen 0
  simp only [List.getElem?_toArray, List.getElem?_cons_zero] at c1 c2 c3
  have hor := or6 h d hh (by omega)
  have h64 : h ≤ 63 := by omega
  have HD := hide hD; have HB := hide hbase; have HN := hide hne
  clear hD hc htv hh hbase
  go_enter Tryd.func106, Tryd.ntmps106
  go_wp2
  obtain ⟨⟨n2, n3, n4, hgn, n5, n6, n7, n12, n13⟩, -⟩ := hne
  have n1 : gn ≠ gh := Ne.symm hgn
  have n8 := n2.symm; have n9 := n3.symm; have n10 := n5.symm; have n11 := n6.symm
  go_region
  go_wp2
  have hx : Hid (∃ x : Nat, (h : Int) * 64 + (d : Int) = (x : Int) ∧ x = h * 64 + d) := ⟨h * 64 + d, by omega, rfl⟩
  obtain ⟨x, hx1, hx2⟩ := hx.out
  rw [hx1]
  have hD2 : DigAt base gt gh gb gn go (x, 2, out) (((w.setCell ⟨gh, 0, none⟩ (.int .i64 (x : Int))).setCell ⟨gn, 0, none⟩ (.int .i64 10)).setCell ⟨gn, 0, none⟩ (.int .i64 2)).drew := by
    obtain ⟨d1, d2, d3, d4, v, d5, d6⟩ := unhide HD
    obtain ⟨-, o1, o2, o3, o4, o5, o6, o7, o8, o9⟩ := unhide HN
    have e1 : v.ownBlock ≠ some gh := fun e => by have := (d6.lt _ e).1; omega
    have e2 : v.ownBlock ≠ some gn := fun e => by have := (d6.lt _ e).1; omega
    exact ⟨(((d1.far (p := ⟨gh, 0, none⟩) n8 _).far (p := ⟨gn, 0, none⟩) n10 _).far (p := ⟨gn, 0, none⟩) n10 _).drew, (((d2.set_ 0 _).far (p := ⟨gn, 0, none⟩) hgn _).far (p := ⟨gn, 0, none⟩) hgn _).drew, (((d3.far (p := ⟨gh, 0, none⟩) n9 _).far (p := ⟨gn, 0, none⟩) n11 _).far (p := ⟨gn, 0, none⟩) n11 _).drew, (((d4.far (p := ⟨gh, 0, none⟩) n1 _).set_ 0 _).set_ 0 _).drew, v, (((d5.far (p := ⟨gh, 0, none⟩) n4.symm _).far (p := ⟨gn, 0, none⟩) n7.symm _).far (p := ⟨gn, 0, none⟩) n7.symm _).drew, (((d6.setCell (p := ⟨gh, 0, none⟩) e1 _).setCell (p := ⟨gn, 0, none⟩) e2 _).setCell (p := ⟨gn, 0, none⟩) e2 _).drew⟩
  have hb2 : Below B0 w (((w.setCell ⟨gh, 0, none⟩ (.int .i64 (x : Int))).setCell ⟨gn, 0, none⟩ (.int .i64 10)).setCell ⟨gn, 0, none⟩ (.int .i64 2)).drew := by
    obtain ⟨-, o1, o2, o3, o4, o5, o6, o7, o8, o9⟩ := unhide HN
    exact ((((Below.refl _ _).setCell (p := ⟨gh, 0, none⟩) o6 _).setCell (p := ⟨gn, 0, none⟩) o7 _).setCell (p := ⟨gn, 0, none⟩) o7 _).drew
  have hs2 : base ≤ (((w.setCell ⟨gh, 0, none⟩ (.int .i64 (x : Int))).setCell ⟨gn, 0, none⟩ (.int .i64 10)).setCell ⟨gn, 0, none⟩ (.int .i64 2)).drew.heap.size := by
    have := unhide HB
    simpa using this
  generalize (((w.setCell ⟨gh, 0, none⟩ (.int .i64 (x : Int))).setCell ⟨gn, 0, none⟩ (.int .i64 10)).setCell ⟨gn, 0, none⟩ (.int .i64 2)).drew = w1 at *
  clear c0 c1 c2 c3 f1 f3 HD HB
  obtain ⟨d1, d2, d3, d4, v, d5, d6⟩ := hD2
  have HE : Hid (v.ownBlock ≠ some gt ∧ v.ownBlock ≠ some gh ∧ v.ownBlock ≠ some gb ∧ v.ownBlock ≠ some gn ∧ v.ownBlock ≠ some go) := by
    obtain ⟨-, o1, o2, o3, o4, o5, o6, o7, o8, o9⟩ := unhide HN
    refine ⟨fun e => ?_, fun e => ?_, fun e => ?_, fun e => ?_, fun e => ?_⟩
    all_goals
      have := (d6.lt _ e).1
      omega
  have c1 := d2.cell 0
  have c3 := d4.cell 0
  have c5 := d5.cell 0
  simp only [List.getElem?_toArray, List.getElem?_cons_zero] at c1 c3 c5
  have hx12 : x ≤ 4095 := by omega
  have HX := hide (And.intro d1 (And.intro d2 (And.intro d3 (And.intro d4 (And.intro d5 (And.intro d6 hb2))))))
  have m1 := World.new_ne w1 _ c1
  have m3 := World.new_ne w1 _ c3
  have m5 := World.new_ne w1 _ c5
  have HX2 := Lib.hid hx2
  clear d1 d2 d3 d4 d5 d6 hx hx1 hor hx2 hb2
  have k5 : (w1.alloc (.cells #[.int .u8 (IntKind.u8.wrap ((x : Int) / 4))] 5)).cell? ⟨go, 0, none⟩ = some v := ((unhide HX).2.2.2.2.1.alloc _).cell 0
  have hand : bits .and .i64 (x : Int) 3 = ((x % 4 : Nat) : Int) := by
    have h := i64_and_nat x 3 (by omega) (by omega)
    rw [show (3 : Nat) = 2 ^ 2 - 1 from rfl, Nat.and_two_pow_sub_one_eq_mod] at h
    exact h
  go_region_law (first | (refine step_appB rfl (.tmp 28) (.tmp 33) rfl ((unhide HX).2.2.2.2.2.1.alloc _).drew rfl ⟨w1.heap.size, 0, none⟩ 1 1 [(x / 4).toUInt8] rfl rfl (news1 w1 _ _ (u8_wrap4 x)) hlen (by have := hs2; simp; omega) ?_; intro v' w2 hO2 hg2 hat2; obtain ⟨g2, cap2, rfl⟩ := hO2.some (by simp); have c12 : w2.cell? ⟨gh, 0, none⟩ = some (.int .i64 (x : Int)) := (((unhide HX).2.1.alloc _).drew.grown hg2 (unhide HE).2.1.symm).cell 0; have c32 : w2.cell? ⟨gn, 0, none⟩ = some (.int .i64 2) := (((unhide HX).2.2.2.1.alloc _).drew.grown hg2 (unhide HE).2.2.2.1.symm).cell 0; have c52 : w2.cell? ⟨go, 0, none⟩ = some v := (((unhide HX).2.2.2.2.1.alloc _).drew.grown hg2 (unhide HE).2.2.2.2.symm).cell 0; have f52 := (((unhide HX).2.2.2.2.1.alloc (.cells #[.int .u8 (IntKind.u8.wrap ((x : Int) / 4))] 5)).drew.grown hg2 (unhide HE).2.2.2.2.symm).frozen 0; have f12 := (((unhide HX).2.1.alloc (.cells #[.int .u8 (IntKind.u8.wrap ((x : Int) / 4))] 5)).drew.grown hg2 (unhide HE).2.1.symm).frozen 0))
  all_goals (
    have H2 := hide (And.intro hO2 (And.intro hg2 hat2)); clear hO2 hg2 hat2 k5 c1 c3 c5
    go_wp2
    go_region
    go_wp2
    go_ret
    obtain ⟨hO2, hg2, hat2⟩ := unhide H2
    obtain ⟨d1, d2, d3, d4, d5, d6, hb2⟩ := unhide HX
    obtain ⟨e1, e2, e3, e4, e5⟩ := unhide HE
    obtain ⟨-, o1, o2, o3, o4, o5, o6, o7, o8, o9⟩ := unhide HN
    have hst : digStep (h, 4, out) (tabv c - 1) = (x % 4, 2, out ++ [(x / 4).toUInt8]) := by rw [hd, HX2.out]; rfl
    rw [hst]
    have hne2 : ∀ g, g < base → (Value.slice (some ⟨g2, 0, none⟩) (out ++ [(x / 4).toUInt8]).length cap2).ownBlock ≠ some g := fun g hg e => by have := (hO2.lt _ e).1; omega
    have hlen2 : (out ++ [(x / 4).toUInt8]).length = out.length + 1 := by simp
    rw [hlen2] at hO2 hne2
    have a1 := (((d1.alloc (.cells #[.int .u8 (IntKind.u8.wrap ((x : Int) / 4))] 5)).drew.grown hg2 e1.symm).far (p := ⟨go, 0, none⟩) n12.symm (.slice (some ⟨g2, 0, none⟩) (out.length + 1) cap2)).far (p := ⟨gh, 0, none⟩) n8 (.int .i64 ((x % 4 : Nat) : Int))
    have a2 := (((d2.alloc (.cells #[.int .u8 (IntKind.u8.wrap ((x : Int) / 4))] 5)).drew.grown hg2 e2.symm).far (p := ⟨go, 0, none⟩) n4 (.slice (some ⟨g2, 0, none⟩) (out.length + 1) cap2)).set_ 0 (.int .i64 ((x % 4 : Nat) : Int))
    have a3 := (((d3.alloc (.cells #[.int .u8 (IntKind.u8.wrap ((x : Int) / 4))] 5)).drew.grown hg2 e3.symm).far (p := ⟨go, 0, none⟩) n13.symm (.slice (some ⟨g2, 0, none⟩) (out.length + 1) cap2)).far (p := ⟨gh, 0, none⟩) n9 (.int .i64 ((x % 4 : Nat) : Int))
    have a4 := (((d4.alloc (.cells #[.int .u8 (IntKind.u8.wrap ((x : Int) / 4))] 5)).drew.grown hg2 e4.symm).far (p := ⟨go, 0, none⟩) n7 (.slice (some ⟨g2, 0, none⟩) (out.length + 1) cap2)).far (p := ⟨gh, 0, none⟩) n1 (.int .i64 ((x % 4 : Nat) : Int))
    have a5 := (((d5.alloc (.cells #[.int .u8 (IntKind.u8.wrap ((x : Int) / 4))] 5)).drew.grown hg2 e5.symm).set_ 0 (.slice (some ⟨g2, 0, none⟩) (out.length + 1) cap2)).far (p := ⟨gh, 0, none⟩) n4.symm (.int .i64 ((x % 4 : Nat) : Int))
    have a6 := (hO2.setCell (p := ⟨go, 0, none⟩) (hne2 _ o5) (.slice (some ⟨g2, 0, none⟩) (out.length + 1) cap2)).setCell (p := ⟨gh, 0, none⟩) (hne2 _ o2) (.int .i64 ((x % 4 : Nat) : Int))
    have a7 : Below B0 w w2 := ((hb2.alloc (by have := hs2; omega) _).drew).grown hg2 (by have := hs2; simp; omega) (fun q hq => by have := (d6.lt _ hq).1; omega)
    have a8 := (a7.setCell (p := ⟨go, 0, none⟩) o8 (.slice (some ⟨g2, 0, none⟩) (out.length + 1) cap2)).setCell (p := ⟨gh, 0, none⟩) o6 (.int .i64 ((x % 4 : Nat) : Int))
    have hz : ((x % 4 : Nat) : Int) = (x : Int) % 4 := by omega
    rw [hz] at a1 a2 a3 a4 a5 a6 a8
    refine ⟨rfl, ⟨a1.drew, ?_, a3.drew, a4.drew, _, a5.drew, a6.drew⟩, a8.drew⟩
    rw [hz]
    exact a2.drew)
end Go.Proofs.YtfhaoamlagnpjaaDoor

set_option linter.unusedVariables false
set_option linter.unusedSimpArgs false
namespace Go.Proofs.YtfhaoamlagnpjaaDoor
open Go.RowKit Go.Lib
set_option maxRecDepth 100000 in
set_option maxHeartbeats 2000000 in
theorem digF_six (c : UInt8) (B0 base gt gh gb gn go : Nat) (h : Nat) (out : List UInt8) (w : World) (hD : DigAt base gt gh gb gn go (h, 6, out) w) (hh : h < 64) (hc : tabv c ≠ 0) (hne : DigNe B0 base gt gh gb gn go) (hbase : base ≤ w.heap.size) (hlen : out.length + 1 ≤ 140737488355328) :
    Calls Tryd.prog 106 #[.int .u8 (c.toNat : Int), .pointer (some ⟨gt, 0, none⟩), .pointer (some ⟨gh, 0, none⟩), .pointer (some ⟨gb, 0, none⟩), .pointer (some ⟨gn, 0, none⟩), .pointer (some ⟨go, 0, none⟩)] w fun e w' => e = .returned (.bool true) ∧ DigAt base gt gh gb gn go (digStep (h, 6, out) (tabv c - 1)) w' ∧ Below B0 w w' := by
  have c0 := hD.1.cell c.toNat
  rw [tab64_at] at c0
  have hcl : (c.toNat : Int) < 256 := by have := c.toNat_lt; omega
  have htv := tabv_le c
  obtain ⟨d, hd⟩ : ∃ d, tabv c = d + 1 := ⟨tabv c - 1, by omega⟩
  rw [hd] at c0
  have hd63 : d ≤ 63 := by omega
  have c1 := hD.2.1.cell 0
  have c2 := hD.2.2.1.cell 0
  have c3 := hD.2.2.2.1.cell 0
  have f1 := hD.2.1.frozen 0
  have f3 := hD.2.2.2.1.frozen 0
  simp only [List.getElem?_toArray, List.getElem?_cons_zero] at c1 c2 c3
  have hor := or6 h d hh (by omega)
  have h64 : h ≤ 63 := by omega
  have HD := hide hD; have HB := hide hbase; have HN := hide hne
  clear hD hc htv hh hbase
  go_enter Tryd.func106, Tryd.ntmps106
  go_wp2
  obtain ⟨⟨n2, n3, n4, hgn, n5, n6, n7, n12, n13⟩, -⟩ := hne
  have n1 : gn ≠ gh := Ne.symm hgn
  have n8 := n2.symm; have n9 := n3.symm; have n10 := n5.symm; have n11 := n6.symm
  go_region
  go_wp2
  have hx : Hid (∃ x : Nat, (h : Int) * 64 + (d : Int) = (x : Int) ∧ x = h * 64 + d) := ⟨h * 64 + d, by omega, rfl⟩
  obtain ⟨x, hx1, hx2⟩ := hx.out
  rw [hx1]
  have hD2 : DigAt base gt gh gb gn go (x, 4, out) (((w.setCell ⟨gh, 0, none⟩ (.int .i64 (x : Int))).setCell ⟨gn, 0, none⟩ (.int .i64 12)).setCell ⟨gn, 0, none⟩ (.int .i64 4)).drew := by
    obtain ⟨d1, d2, d3, d4, v, d5, d6⟩ := unhide HD
    obtain ⟨-, o1, o2, o3, o4, o5, o6, o7, o8, o9⟩ := unhide HN
    have e1 : v.ownBlock ≠ some gh := fun e => by have := (d6.lt _ e).1; omega
    have e2 : v.ownBlock ≠ some gn := fun e => by have := (d6.lt _ e).1; omega
    exact ⟨(((d1.far (p := ⟨gh, 0, none⟩) n8 _).far (p := ⟨gn, 0, none⟩) n10 _).far (p := ⟨gn, 0, none⟩) n10 _).drew, (((d2.set_ 0 _).far (p := ⟨gn, 0, none⟩) hgn _).far (p := ⟨gn, 0, none⟩) hgn _).drew, (((d3.far (p := ⟨gh, 0, none⟩) n9 _).far (p := ⟨gn, 0, none⟩) n11 _).far (p := ⟨gn, 0, none⟩) n11 _).drew, (((d4.far (p := ⟨gh, 0, none⟩) n1 _).set_ 0 _).set_ 0 _).drew, v, (((d5.far (p := ⟨gh, 0, none⟩) n4.symm _).far (p := ⟨gn, 0, none⟩) n7.symm _).far (p := ⟨gn, 0, none⟩) n7.symm _).drew, (((d6.setCell (p := ⟨gh, 0, none⟩) e1 _).setCell (p := ⟨gn, 0, none⟩) e2 _).setCell (p := ⟨gn, 0, none⟩) e2 _).drew⟩
  have hb2 : Below B0 w (((w.setCell ⟨gh, 0, none⟩ (.int .i64 (x : Int))).setCell ⟨gn, 0, none⟩ (.int .i64 12)).setCell ⟨gn, 0, none⟩ (.int .i64 4)).drew := by
    obtain ⟨-, o1, o2, o3, o4, o5, o6, o7, o8, o9⟩ := unhide HN
    exact ((((Below.refl _ _).setCell (p := ⟨gh, 0, none⟩) o6 _).setCell (p := ⟨gn, 0, none⟩) o7 _).setCell (p := ⟨gn, 0, none⟩) o7 _).drew
  have hs2 : base ≤ (((w.setCell ⟨gh, 0, none⟩ (.int .i64 (x : Int))).setCell ⟨gn, 0, none⟩ (.int .i64 12)).setCell ⟨gn, 0, none⟩ (.int .i64 4)).drew.heap.size := by
    have := unhide HB
    simpa using this
  generalize (((w.setCell ⟨gh, 0, none⟩ (.int .i64 (x : Int))).setCell ⟨gn, 0, none⟩ (.int .i64 12)).setCell ⟨gn, 0, none⟩ (.int .i64 4)).drew = w1 at *
  clear c0 c1 c2 c3 f1 f3 HD HB
  obtain ⟨d1, d2, d3, d4, v, d5, d6⟩ := hD2
  have HE : Hid (v.ownBlock ≠ some gt ∧ v.ownBlock ≠ some gh ∧ v.ownBlock ≠ some gb ∧ v.ownBlock ≠ some gn ∧ v.ownBlock ≠ some go) := by
    obtain ⟨-, o1, o2, o3, o4, o5, o6, o7, o8, o9⟩ := unhide HN
    refine ⟨fun e => ?_, fun e => ?_, fun e => ?_, fun e => ?_, fun e => ?_⟩
    all_goals
      have := (d6.lt _ e).1
      omega
  have c1 := d2.cell 0
  have c3 := d4.cell 0
  have c5 := d5.cell 0
  simp only [List.getElem?_toArray, List.getElem?_cons_zero] at c1 c3 c5
  have hx12 : x ≤ 4095 := by omega
  have HX := hide (And.intro d1 (And.intro d2 (And.intro d3 (And.intro d4 (And.intro d5 (And.intro d6 hb2))))))
  have m1 := World.new_ne w1 _ c1
  have m3 := World.new_ne w1 _ c3
  have m5 := World.new_ne w1 _ c5
  have HX2 := Lib.hid hx2
  clear d1 d2 d3 d4 d5 d6 hx hx1 hor hx2 hb2
  have k5 : (w1.alloc (.cells #[.int .u8 (IntKind.u8.wrap ((x : Int) / 16))] 5)).cell? ⟨go, 0, none⟩ = some v := ((unhide HX).2.2.2.2.1.alloc _).cell 0
  have hand : bits .and .i64 (x : Int) 15 = ((x % 16 : Nat) : Int) := by
    have h := i64_and_nat x 15 (by omega) (by omega)
    rw [show (15 : Nat) = 2 ^ 4 - 1 from rfl, Nat.and_two_pow_sub_one_eq_mod] at h
    exact h
  go_region_law (first | (refine step_appB rfl (.tmp 28) (.tmp 33) rfl ((unhide HX).2.2.2.2.2.1.alloc _).drew rfl ⟨w1.heap.size, 0, none⟩ 1 1 [(x / 16).toUInt8] rfl rfl (news1 w1 _ _ (u8_wrap16 x)) hlen (by have := hs2; simp; omega) ?_; intro v' w2 hO2 hg2 hat2; obtain ⟨g2, cap2, rfl⟩ := hO2.some (by simp); have c12 : w2.cell? ⟨gh, 0, none⟩ = some (.int .i64 (x : Int)) := (((unhide HX).2.1.alloc _).drew.grown hg2 (unhide HE).2.1.symm).cell 0; have c32 : w2.cell? ⟨gn, 0, none⟩ = some (.int .i64 4) := (((unhide HX).2.2.2.1.alloc _).drew.grown hg2 (unhide HE).2.2.2.1.symm).cell 0; have c52 : w2.cell? ⟨go, 0, none⟩ = some v := (((unhide HX).2.2.2.2.1.alloc _).drew.grown hg2 (unhide HE).2.2.2.2.symm).cell 0; have f52 := (((unhide HX).2.2.2.2.1.alloc (.cells #[.int .u8 (IntKind.u8.wrap ((x : Int) / 16))] 5)).drew.grown hg2 (unhide HE).2.2.2.2.symm).frozen 0; have f12 := (((unhide HX).2.1.alloc (.cells #[.int .u8 (IntKind.u8.wrap ((x : Int) / 16))] 5)).drew.grown hg2 (unhide HE).2.1.symm).frozen 0))
  all_goals (
    have H2 := hide (And.intro hO2 (And.intro hg2 hat2)); clear hO2 hg2 hat2 k5 c1 c3 c5
    go_wp2
    go_region
    go_wp2
    go_ret
    obtain ⟨hO2, hg2, hat2⟩ := unhide H2
    obtain ⟨d1, d2, d3, d4, d5, d6, hb2⟩ := unhide HX
    obtain ⟨e1, e2, e3, e4, e5⟩ := unhide HE
    obtain ⟨-, o1, o2, o3, o4, o5, o6, o7, o8, o9⟩ := unhide HN
    have hst : digStep (h, 6, out) (tabv c - 1) = (x % 16, 4, out ++ [(x / 16).toUInt8]) := by rw [hd, HX2.out]; rfl
    rw [hst]
    have hne2 : ∀ g, g < base → (Value.slice (some ⟨g2, 0, none⟩) (out ++ [(x / 16).toUInt8]).length cap2).ownBlock ≠ some g := fun g hg e => by have := (hO2.lt _ e).1; omega
    have hlen2 : (out ++ [(x / 16).toUInt8]).length = out.length + 1 := by simp
    rw [hlen2] at hO2 hne2
    have a1 := (((d1.alloc (.cells #[.int .u8 (IntKind.u8.wrap ((x : Int) / 16))] 5)).drew.grown hg2 e1.symm).far (p := ⟨go, 0, none⟩) n12.symm (.slice (some ⟨g2, 0, none⟩) (out.length + 1) cap2)).far (p := ⟨gh, 0, none⟩) n8 (.int .i64 ((x % 16 : Nat) : Int))
    have a2 := (((d2.alloc (.cells #[.int .u8 (IntKind.u8.wrap ((x : Int) / 16))] 5)).drew.grown hg2 e2.symm).far (p := ⟨go, 0, none⟩) n4 (.slice (some ⟨g2, 0, none⟩) (out.length + 1) cap2)).set_ 0 (.int .i64 ((x % 16 : Nat) : Int))
    have a3 := (((d3.alloc (.cells #[.int .u8 (IntKind.u8.wrap ((x : Int) / 16))] 5)).drew.grown hg2 e3.symm).far (p := ⟨go, 0, none⟩) n13.symm (.slice (some ⟨g2, 0, none⟩) (out.length + 1) cap2)).far (p := ⟨gh, 0, none⟩) n9 (.int .i64 ((x % 16 : Nat) : Int))
    have a4 := (((d4.alloc (.cells #[.int .u8 (IntKind.u8.wrap ((x : Int) / 16))] 5)).drew.grown hg2 e4.symm).far (p := ⟨go, 0, none⟩) n7 (.slice (some ⟨g2, 0, none⟩) (out.length + 1) cap2)).far (p := ⟨gh, 0, none⟩) n1 (.int .i64 ((x % 16 : Nat) : Int))
    have a5 := (((d5.alloc (.cells #[.int .u8 (IntKind.u8.wrap ((x : Int) / 16))] 5)).drew.grown hg2 e5.symm).set_ 0 (.slice (some ⟨g2, 0, none⟩) (out.length + 1) cap2)).far (p := ⟨gh, 0, none⟩) n4.symm (.int .i64 ((x % 16 : Nat) : Int))
    have a6 := (hO2.setCell (p := ⟨go, 0, none⟩) (hne2 _ o5) (.slice (some ⟨g2, 0, none⟩) (out.length + 1) cap2)).setCell (p := ⟨gh, 0, none⟩) (hne2 _ o2) (.int .i64 ((x % 16 : Nat) : Int))
    have a7 : Below B0 w w2 := ((hb2.alloc (by have := hs2; omega) _).drew).grown hg2 (by have := hs2; simp; omega) (fun q hq => by have := (d6.lt _ hq).1; omega)
    have a8 := (a7.setCell (p := ⟨go, 0, none⟩) o8 (.slice (some ⟨g2, 0, none⟩) (out.length + 1) cap2)).setCell (p := ⟨gh, 0, none⟩) o6 (.int .i64 ((x % 16 : Nat) : Int))
    have hz : ((x % 16 : Nat) : Int) = (x : Int) % 16 := by omega
    rw [hz] at a1 a2 a3 a4 a5 a6 a8
    refine ⟨rfl, ⟨a1.drew, ?_, a3.drew, a4.drew, _, a5.drew, a6.drew⟩, a8.drew⟩
    rw [hz]
    exact a2.drew)
end Go.Proofs.YtfhaoamlagnpjaaDoor

set_option linter.unusedVariables false
set_option linter.unusedSimpArgs false
namespace Go.Proofs.YtfhaoamlagnpjaaDoor
open Go.RowKit Go.Lib
def OkD (st : Nat × Nat × List UInt8) : Prop := (st.2.1 = 0 ∨ st.2.1 = 2 ∨ st.2.1 = 4 ∨ st.2.1 = 6) ∧ st.1 < 2 ^ st.2.1
theorem okD_step {st : Nat × Nat × List UInt8} (h : OkD st) (d : Nat) (hd : d < 64) : OkD (digStep st d) ∧ (digStep st d).2.2.length ≤ st.2.2.length + 1 := by
  obtain ⟨a, n, out⟩ := st
  obtain ⟨h1, h2⟩ := h
  simp only at h1 h2
  unfold digStep OkD
  rcases h1 with rfl | rfl | rfl | rfl
  · simp only [Nat.not_lt_zero, Nat.not_le_of_lt (show (0 : Nat) < 2 from by decide), if_false]
    simp at h2
    subst h2
    simp
    exact hd
  · simp [Nat.mod_one]
  · simp
    omega
  · simp
    omega
theorem digStep_any (c : UInt8) (B0 base gt gh gb gn go : Nat) (st : Nat × Nat × List UInt8) (w : World) (hD : DigAt base gt gh gb gn go st w) (hok : OkD st) (hc : tabv c ≠ 0) (hne : DigNe B0 base gt gh gb gn go) (hbase : base ≤ w.heap.size) (hlen : st.2.2.length + 1 ≤ 140737488355328) :
    Calls Tryd.prog 106 #[.int .u8 (c.toNat : Int), .pointer (some ⟨gt, 0, none⟩), .pointer (some ⟨gh, 0, none⟩), .pointer (some ⟨gb, 0, none⟩), .pointer (some ⟨gn, 0, none⟩), .pointer (some ⟨go, 0, none⟩)] w fun e w' => e = .returned (.bool true) ∧ DigAt base gt gh gb gn go (digStep st (tabv c - 1)) w' ∧ Below B0 w w' := by
  obtain ⟨a, n, out⟩ := st
  obtain ⟨h1, h2⟩ := hok
  simp only at h1 h2
  rcases h1 with rfl | rfl | rfl | rfl
  · exact digF_zero c B0 base gt gh gb gn go a out w hD (by simp at h2; omega) hc hne
  · exact digF_two c B0 base gt gh gb gn go a out w hD (by omega) hc hne hbase hlen
  · exact digF_four c B0 base gt gh gb gn go a out w hD (by omega) hc hne hbase hlen
  · exact digF_six c B0 base gt gh gb gn go a out w hD (by omega) hc hne hbase hlen
theorem tab64_size : tab64.size = 256 := by
  rw [← tab64_is]
  exact tabUp_size _ _
/-- What stands while the bytes are gone through. -/
def DigI (B0 base gt gh gb gn go : Nat) (s : ByteArray) (w : World) (k : Nat) (wi : World) : Prop :=
  DigAt base gt gh gb gn go (digRun (0, 0, []) (s.data.toList.take k)) wi ∧ OkD (digRun (0, 0, []) (s.data.toList.take k)) ∧ (digRun (0, 0, []) (s.data.toList.take k)).2.2.length ≤ k ∧ Below B0 w wi ∧ base ≤ wi.heap.size ∧ ∀ j (hj : j < s.size), j < k → tabv s[j] ≠ 0
theorem digEach_any (s : ByteArray) (B0 base gt gh gb gn go : Nat) (w0 w : World) (hs : s.size ≤ 1099511627776) (hne : DigNe B0 base gt gh gb gn go) (hD : DigAt base gt gh gb gn go (0, 0, []) w) (hb : Below B0 w0 w) (hbase : base ≤ w.heap.size) :
    Calls Tryd.prog 73 #[.string s, .func (.func 106) #[] #[.pointer (some ⟨gt, 0, none⟩), .pointer (some ⟨gh, 0, none⟩), .pointer (some ⟨gb, 0, none⟩), .pointer (some ⟨gn, 0, none⟩), .pointer (some ⟨go, 0, none⟩)]] w fun e w' => ∃ b, e = .returned (.bool b) ∧ (b = false → ∃ c ∈ s.data.toList, tabv c = 0) ∧ (b = true → ∀ c ∈ s.data.toList, tabv c ≠ 0) ∧ Below B0 w0 w' ∧ ∃ out, DigAt base gt gh gb gn go out w' ∧ (b = true → out = digRun (0, 0, []) s.data.toList) ∧ out.2.2.length ≤ s.size := by
  have hll : s.data.toList.length = s.size := Array.length_toList
  refine (each_inv 106 _ s (fun k wi => DigI B0 base gt gh gb gn go s w0 k wi) (fun b w' => (b = false → ∃ c ∈ s.data.toList, tabv c = 0) ∧ (b = true → ∀ c ∈ s.data.toList, tabv c ≠ 0) ∧ Below B0 w0 w' ∧ ∃ out, DigAt base gt gh gb gn go out w' ∧ (b = true → out = digRun (0, 0, []) s.data.toList) ∧ out.2.2.length ≤ s.size) w (by simp only [maxLen]; omega) digF_enters ⟨hD, ⟨.inl rfl, Nat.zero_lt_one⟩, Nat.le_refl _, hb, hbase, fun j _ h => by omega⟩ ?_ ?_).mono ?_
  · rintro k wi hk ⟨h1, h2, h3, h4, h5, h6⟩
    have hkl : k < s.data.toList.length := by omega
    have hge : s.data.toList[k] = s[k] := rfl
    have hnx : digRun (0, 0, []) (s.data.toList.take (k + 1)) = digStep (digRun (0, 0, []) (s.data.toList.take k)) (tabv s[k] - 1) := by
      rw [List.take_succ_eq_append_getElem hkl]
      unfold digRun
      rw [List.foldl_append]
      rfl
    by_cases hc : tabv s[k] = 0
    · refine (digF_no s[k] base gt gh gb gn go _ wi h1 hc).mono ?_
      rintro e w' ⟨rfl, rfl⟩
      exact ⟨false, rfl, fun h => (by cases h), fun _ => ⟨fun _ => ⟨s[k], by rw [← hge]; exact List.getElem_mem _, hc⟩, fun h => (by cases h), h4, _, h1, fun h => (by cases h), by omega⟩⟩
    · refine (digStep_any s[k] B0 base gt gh gb gn go _ wi h1 h2 hc hne h5 (by omega)).mono ?_
      rintro e w' ⟨rfl, hD', hb'⟩
      refine ⟨true, rfl, fun _ => ?_, fun h => by cases h⟩
      have hst := okD_step h2 (tabv s[k] - 1) (by have := tabv_le s[k]; omega)
      unfold DigI
      rw [hnx]
      refine ⟨hD', hst.1, by omega, h4.trans hb', Nat.le_trans h5 hb'.size, fun j hj hjk => ?_⟩
      rcases Nat.lt_succ_iff_lt_or_eq.1 hjk with h' | rfl
      · exact h6 j hj h'
      · exact hc
  · rintro wi ⟨h1, h2, h3, h4, h5, h6⟩
    rw [List.take_of_length_le (by omega)] at h1 h3
    refine ⟨fun h => (by cases h), fun _ c hc => ?_, h4, _, h1, fun _ => rfl, h3⟩
    obtain ⟨j, hj, rfl⟩ := List.mem_iff_getElem.1 hc
    exact h6 j (by omega) (by omega)
  · rintro e w' ⟨b, rfl, h⟩
    exact ⟨b, rfl, h⟩
set_option maxRecDepth 100000 in
set_option maxHeartbeats 1000000 in
theorem digits_any (s : ByteArray) (w : World) (hs : s.size ≤ 1099511627776) :
    Calls Tryd.prog 83 #[.string s, .agg tab64, .int .i64 6] w fun e w' => ∃ x b, e = .returned (.tuple #[.string x, .bool b]) ∧ x.size ≤ s.size ∧ (b = false → ∃ c ∈ s.data.toList, tabv c = 0) ∧ (b = true → (∀ c ∈ s.data.toList, tabv c ≠ 0) ∧ x = ⟨(digRun (0, 0, []) s.data.toList).2.2.toArray⟩) ∧ Below w.heap.size w w' := by
  have hsz := tab64_size
  obtain ⟨T, hT⟩ : ∃ T, Hid (tab64 = T) := ⟨_, Lib.hid rfl⟩
  rw [hT.out] at hsz ⊢
  go_enter Tryd.func83, Tryd.ntmps83
  go_wp2_with fail
  rw [← hT.out]
  simp only [Nat.add_assoc, Nat.reduceAdd]
  have hne : DigNe w.heap.size (w.heap.size + 5) w.heap.size (w.heap.size + 3) (w.heap.size + 1) (w.heap.size + 4) (w.heap.size + 2) := by
    unfold DigNe
    omega
  have hb0 : Below w.heap.size w (((((w.alloc (.cells tab64 121)).alloc (.cells #[.int .i64 6] 3)).alloc (.cells #[.slice none 0 0] 75)).alloc (.cells #[.int .i64 0] 3)).alloc (.cells #[.int .i64 0] 3)) :=
    (((((Below.refl _ _).alloc (Nat.le_refl _) _).alloc (by simp) _).alloc (by simp; omega) _).alloc (by simp; omega) _).alloc (by simp; omega) _
  have hD0 : DigAt (w.heap.size + 5) w.heap.size (w.heap.size + 3) (w.heap.size + 1) (w.heap.size + 4) (w.heap.size + 2) (0, 0, []) (((((w.alloc (.cells tab64 121)).alloc (.cells #[.int .i64 6] 3)).alloc (.cells #[.slice none 0 0] 75)).alloc (.cells #[.int .i64 0] 3)).alloc (.cells #[.int .i64 0] 3)) := by
    have d1 := (((((Blk.new w 121 tab64).alloc (.cells #[.int .i64 6] 3)).alloc (.cells #[.slice none 0 0] 75)).alloc (.cells #[.int .i64 0] 3)).alloc (.cells #[.int .i64 0] 3))
    have d3 := ((((Blk.new (w.alloc (.cells tab64 121)) 3 #[.int .i64 6]).alloc (.cells #[.slice none 0 0] 75)).alloc (.cells #[.int .i64 0] 3)).alloc (.cells #[.int .i64 0] 3))
    have d5 := ((Blk.new ((w.alloc (.cells tab64 121)).alloc (.cells #[.int .i64 6] 3)) 75 #[.slice none 0 0]).alloc (.cells #[.int .i64 0] 3)).alloc (.cells #[.int .i64 0] 3)
    have d2 := (Blk.new (((w.alloc (.cells tab64 121)).alloc (.cells #[.int .i64 6] 3)).alloc (.cells #[.slice none 0 0] 75)) 3 #[.int .i64 0]).alloc (.cells #[.int .i64 0] 3)
    have d4 := Blk.new ((((w.alloc (.cells tab64 121)).alloc (.cells #[.int .i64 6] 3)).alloc (.cells #[.slice none 0 0] 75)).alloc (.cells #[.int .i64 0] 3)) 3 #[.int .i64 0]
    simp only [World.size_alloc, Nat.add_assoc, Nat.reduceAdd] at d1 d2 d3 d4 d5
    exact ⟨d1, d2, d3, d4, _, d5, OwnB.nil _ _⟩
  refine (digEach_any s w.heap.size (w.heap.size + 5) w.heap.size (w.heap.size + 3) (w.heap.size + 1) (w.heap.size + 4) (w.heap.size + 2) w _ hs hne hD0 hb0 (by simp)).mono ?_
  rintro e w1 ⟨b, rfl, h1, h2, hb, out, hD, ho, hl⟩
  obtain ⟨d1, d2, d3, d4, v, d5, d6⟩ := hD
  have c5 := d5.cell 0
  simp only [List.getElem?_toArray, List.getElem?_cons_zero] at c5
  have hcv := conv_own d6
  have HY := hide (And.intro h1 (And.intro h2 (And.intro hb (And.intro ho hl)))); clear h1 h2 hb ho hl d1 d2 d3 d4 d5 d6 hD0 hb0 hne
  go_wp2_with fail
  go_ret2
  obtain ⟨h1, h2, hb, ho, hl⟩ := unhide HY
  exact ⟨_, b, rfl, (by show out.2.2.toArray.size ≤ s.size; rw [List.size_toArray]; exact hl), h1, fun h => ⟨h2 h, by rw [ho h]⟩, hb⟩
/-- Up to two = at the end are cut, of a text. -/
def stripI : Nat → List UInt8 → List UInt8
  | 0, l => l
  | k + 1, l => strip1 (stripI k l)
theorem strip1_len (l : List UInt8) : (strip1 l).length ≤ l.length := by
  unfold strip1
  split <;> simp
theorem stripI_len (l : List UInt8) : ∀ k, (stripI k l).length ≤ l.length
  | 0 => Nat.le_refl _
  | k + 1 => Nat.le_trans (strip1_len _) (stripI_len l k)
set_option maxRecDepth 100000 in
set_option maxHeartbeats 1000000 in
theorem unb_any (s : ByteArray) (w : World) (hs : s.size ≤ 1099511627776) :
    Calls Tryd.prog 53 #[.string s] w fun e w' => e = .returned (unbA s) ∧ Below w.heap.size w w' := by
  have hll : s.data.toList.length = s.size := Array.length_toList
  go_enter Tryd.func53, Tryd.ntmps53
  go_wp2_with fail
  go_loopw [4, 8] (fun v i wr => ∃ (k : Nat) (x : ByteArray), i = .int .i64 k ∧ k ≤ 2 ∧ v = .string x ∧ x.size ≤ s.size ∧ Hid (x.data.toList = stripI k s.data.toList) ∧ Hid (w = wr)) (fun _ i _ => 2 - (RowKit.intOf i).toNat)
  case atStart => exact ⟨0, s, rfl, by omega, rfl, Nat.le_refl _, Lib.hid rfl, Lib.hid rfl⟩
  case round =>
    obtain ⟨k, x, rfl, hk, rfl, hxs, hx, hw⟩ := hrel
    obtain rfl := hw.out
    have hxl : x.data.toList.length = x.size := Array.length_toList
    rcases Nat.lt_or_ge k 2 with hlt | hge
    · have hk2 : (k : Int) < 2 := by omega
      rcases Nat.eq_zero_or_pos x.size with h0 | h0
      · have h01 : ¬ (0 : Int) < (x.size : Int) := by omega
        have hnx : Hid (x.data.toList = stripI (k + 1) s.data.toList) := by
          have e : x.data.toList = [] := List.eq_nil_of_length_eq_zero (by omega)
          have h := hx.out
          unfold Hid stripI
          rw [← h, e]; rfl
        go_wp2_with fail
        go_roundw
        case rel => exact ⟨k + 1, x, by go_num, by omega, rfl, hxs, hnx, Lib.hid trivial⟩
        case measure => simp [RowKit.intOf]; omega
      · have h01 : (0 : Int) < (x.size : Int) := by omega
        have hlt1 : x.size - 1 < x.size := by omega
        have hix : (x[x.size - 1]'hlt1).toNat < 256 := x[x.size - 1].toNat_lt
        have hm1 : (x.size : Int) - 1 = ((x.size - 1 : Nat) : Int) := by omega
        have hgl : Hid (x.data.toList.getLast? = some x[x.size - 1]) := by
          rw [Hid, List.getLast?_eq_getElem?, hxl, List.getElem?_eq_getElem (by omega)]
          rfl
        by_cases hc : x[x.size - 1] = 61
        · have hcc : ((x[x.size - 1].toNat : Int) == 61) = true := by rw [hc]; rfl
          have hnx : Hid ((x.extract 0 (x.size - 1)).data.toList = stripI (k + 1) s.data.toList) := by
            have h := hx.out
            unfold Hid stripI
            rw [← h]
            unfold strip1
            rw [hgl.out, hc, if_pos rfl, bytes_extract _ _ _ (by omega), List.drop_zero, Nat.sub_zero, List.dropLast_eq_take, hxl]
          go_wp2_with fail
          go_roundw
          case rel => exact ⟨k + 1, _, by go_num, by omega, rfl, by rw [ByteArray.size_extract, Nat.min_eq_left (by omega)]; omega, hnx, Lib.hid trivial⟩
          case measure => simp [RowKit.intOf]; omega
        · have hcc : ((x[x.size - 1].toNat : Int) == 61) = false := by
            rw [beq_eq_false_iff_ne]
            exact fun e => hc (UInt8.toNat_inj.1 (by rw [show (61 : UInt8).toNat = 61 from rfl]; omega))
          have hnx : Hid (x.data.toList = stripI (k + 1) s.data.toList) := by
            have h := hx.out
            unfold Hid stripI
            rw [← h]
            unfold strip1
            rw [hgl.out, if_neg (by simpa using hc)]
          go_wp2_with fail
          go_roundw
          case rel => exact ⟨k + 1, x, by go_num, by omega, rfl, hxs, hnx, Lib.hid trivial⟩
          case measure => simp [RowKit.intOf]; omega
    · obtain rfl : k = 2 := by omega
      have hst : Hid (x.data.toList = stripL s.data.toList) := hx.out
      have htb := tab64_any w
      have HTB := hide htb; clear htb hx
      obtain ⟨T, hT⟩ : ∃ T, Hid (tab64 = T) := ⟨_, Lib.hid rfl⟩
      have hdg := fun W => digits_any x W (by omega)
      rw [hT.out] at HTB hdg
      have HDG := hide hdg; clear hdg
      go_wp2_with fail
      refine (unhide HTB).mono ?_
      rintro e w1 ⟨rfl, hb1⟩
      go_wp2_with fail
      refine (unhide HDG w1).mono ?_
      rintro e w2 ⟨y, b, rfl, hys, hbf, hbt, hb2⟩
      have hb2' : Below w.heap.size w w2 := hb1.trans (hb2.mono hb1.size)
      have HY := hide (And.intro hbf (And.intro hbt hb2')); clear hbf hbt hb2' hb1 hb2
      have hbd : Hid (b = true → y.data.toList = undigL s.data.toList) := fun h => by
        have h2 := ((unhide HY).2.1 h).2
        rw [h2]
        unfold undigL
        rw [hst.out]
      cases b with
      | false =>
        have hres : Hid (unbA s = .tuple #[.string ⟨#[]⟩, .int .i64 40]) := unbA_none (unb64V_none fun t ht => by
          obtain ⟨c, hc, hc0⟩ := (unhide HY).1 rfl
          rw [hst.out, b64S_list ht, strip_b64] at hc
          exact (bare_valid _ c hc).1 hc0)
        go_wp2_with fail
        go_ret2
        exact ⟨by rw [hres.out]; rfl, (unhide HY).2.2⟩
      | true =>
        have hy : y = ⟨(undigL s.data.toList).toArray⟩ := bs_eq (hbd.out rfl)
        have huv : unb64V s = if b64S y = s then some y else none := by rw [hy]; rfl
        have HUV := Lib.hid huv; clear huv hy
        have hb64 := fun W => b64_any y W (by omega)
        obtain ⟨D, HDe⟩ : ∃ D, Hid (b64S y = D) := ⟨_, Lib.hid rfl⟩
        rw [HDe.out] at HUV hb64
        have HB := hide hb64; clear hb64
        go_wp2_with fail
        refine (unhide HB _).mono ?_
        rintro e w3 ⟨rfl, hb3⟩
        have hb3' : Below w.heap.size w w3 := (unhide HY).2.2.trans (hb3.mono (unhide HY).2.2.size)
        have H3 := hide hb3'; clear hb3 hb3'
        by_cases he : D = s
        · have hr : Hid (unbA s = .tuple #[.string y, .int .i64 0]) := unbA_some (by rw [HUV.out, if_pos he])
          subst he
          go_wp2_with fail
          go_ret2
          exact ⟨by rw [hr.out]; rfl, unhide H3⟩
        · have hr : Hid (unbA s = .tuple #[.string ⟨#[]⟩, .int .i64 40]) := unbA_none (by rw [HUV.out, if_neg he])
          have he' := toList_ne he
          go_wp2_with fail
          go_ret2
          exact ⟨by rw [hr.out]; rfl, unhide H3⟩
end Go.Proofs.YtfhaoamlagnpjaaDoor

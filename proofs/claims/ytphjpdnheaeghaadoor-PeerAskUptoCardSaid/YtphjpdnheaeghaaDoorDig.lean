/-
  CONTRACT of package text: digits of six bits.
-/
import Derived.Test.YtphjpdnheaeghaaDoorRows
import Derived.Test.YtphjpdnheaeghaaDoorWd
import Derived.Test.YtphjpdnheaeghaaDoorEach
import Derived.Test.YtphjpdnheaeghaaDoorBytes
import Derived.Test.YtphjpdnheaeghaaDoorB64
import Derived.Test.YtphjpdnheaeghaaDoorUnBP
import Derived.Test.YtphjpdnheaeghaaDoorTab
import Derived.StillTailTactics
import Derived.Deep.RegionHeld3
import Derived.Deep.RegionLaw
set_option linter.unusedVariables false
set_option linter.unusedSimpArgs false
namespace Go.Proofs.YtphjpdnheaeghaaDoor
open Go.RowKit Go.Lib
theorem step_appB {ops : Array Oper} {o : Oper} {a : Act} {K : Act → World → Prop} {Q : Exit → Act → World → Prop} {E : Prop} {w : World} (hgd : o.guard = none) (s x : Operand)
    (ho : o.op = .call { callee := .builtin .append, args := #[s, x], argTypes := #[38, 38] })
    {base : Nat} {v : Value} {bs : List UInt8} (hown : OwnB w base v bs) (hs : a.eval s = v) (ad : Addr) (m c : Nat) (nb : List UInt8) (hx : a.eval x = .slice (some ad) m c) (hm : nb.length = m)
    (hnews : ∀ j u, (byteCells nb)[j]? = some u → w.cell? (ad.add j) = some u) (h47 : bs.length + m ≤ 140737488355328) (hbase : base ≤ w.heap.size)
    (h : ∀ v' w', OwnB w' base v' (bs ++ nb) → w.grownBy w' v.ownBlock → (v'.ownBlock = v.ownBlock ∨ v'.ownBlock = some w.heap.size) → K (a.put o.dst v') w') :
    if Region.wanted o (yielded ops a.tmps) = true then Oper.wp Tryd.prog o a w K Q else E := by
  have hw : Region.wanted o (yielded ops a.tmps) = true := by simp [Region.wanted, hgd]
  rw [if_pos hw]
  obtain ⟨v', w', hr, h2, h3, h4⟩ := run_app_cells w o.type base v bs hown ad m c nb hm hnews h47 hbase
  unfold Oper.wp execOp
  simp only [ho, resolve, invoke, builtin, Sem.run_bind, Sem.run_pure, Result.andThen_ok, List.map_toArray, List.map_cons, List.map_nil, hs, hx, hr]
  exact h v' w' h2 h3 h4
theorem news1 (w : World) (z : Int) (x : UInt8) (hz : IntKind.u8.wrap z = (x.toNat : Int)) : ∀ j u, (byteCells [x])[j]? = some u → ((w.alloc (.cells #[.int .u8 (IntKind.u8.wrap z)] 5)).drew).cell? ((⟨w.heap.size, 0, none⟩ : Addr).add j) = some u := by
  intro j u h
  have hadd : (⟨w.heap.size, 0, none⟩ : Addr).add j = ⟨w.heap.size, j, none⟩ := by unfold Addr.add; split <;> simp_all
  rw [hadd, ((Blk.new w 5 _).drew).cell j, ← h, hz]
  simp [byteCells]
theorem u8_wrap4 (x : Nat) : IntKind.u8.wrap ((x : Int) / 4) = (((x / 4).toUInt8).toNat : Int) := by
  have e : ((x / 4).toUInt8).toNat = (x / 4) % 256 := UInt8.toNat_ofNat' ..
  rw [e]
  simp [IntKind.wrap, IntKind.bits, IntKind.signed]
theorem u8_wrap16 (x : Nat) : IntKind.u8.wrap ((x : Int) / 16) = (((x / 16).toUInt8).toNat : Int) := by
  have e : ((x / 16).toUInt8).toNat = (x / 16) % 256 := UInt8.toNat_ofNat' ..
  rw [e]
  simp [IntKind.wrap, IntKind.bits, IntKind.signed]
theorem u8_wrap (x : Nat) : IntKind.u8.wrap (x : Int) = ((x.toUInt8).toNat : Int) := by
  have e : (x.toUInt8).toNat = x % 256 := UInt8.toNat_ofNat' ..
  rw [e]
  simp [IntKind.wrap, IntKind.bits, IntKind.signed]
theorem OwnB.some {w : World} {base : Nat} {v : Value} {bs : List UInt8} (h : OwnB w base v bs) (hne : bs ≠ []) : ∃ g cap, v = .slice (some ⟨g, 0, none⟩) bs.length cap := by
  rcases h.form with ⟨_, he⟩ | ⟨g, cap, hv, _⟩
  · exact absurd he hne
  · exact ⟨g, cap, hv⟩
theorem digF_enters : Enters Tryd.prog 44 := enters_of Tryd.func44 (by kernel_rfl) rfl
/-- What the closure's boxes hold. -/
def DigAt (base gt gh gb gn go : Nat) (st : Nat × Nat × List UInt8) (w : World) : Prop :=
  Blk w gt 76 tab64 ∧ Blk w gh 3 #[.int .i64 (st.1 : Int)] ∧ Blk w gb 3 #[.int .i64 6] ∧ Blk w gn 3 #[.int .i64 (st.2.1 : Int)] ∧ ∃ v, Blk w go 38 #[v] ∧ OwnB w base v st.2.2
set_option maxRecDepth 100000 in
set_option maxHeartbeats 1000000 in
theorem digF_no (c : UInt8) (base gt gh gb gn go : Nat) (st : Nat × Nat × List UInt8) (w : World) (h : DigAt base gt gh gb gn go st w) (hc : tabv c = 0) :
    Calls Tryd.prog 44 #[.int .u8 (c.toNat : Int), .pointer (some ⟨gt, 0, none⟩), .pointer (some ⟨gh, 0, none⟩), .pointer (some ⟨gb, 0, none⟩), .pointer (some ⟨gn, 0, none⟩), .pointer (some ⟨go, 0, none⟩)] w fun e w' => e = .returned (.bool false) ∧ w' = w := by
  have c0 := h.1.cell c.toNat
  rw [tab64_at, hc] at c0
  have hcl : (c.toNat : Int) < 256 := by have := c.toNat_lt; omega
  clear h
  go_enter Tryd.func44, Tryd.ntmps44
  go_wp2
  go_ret
  exact ⟨rfl, rfl⟩
theorem or6 (h d : Nat) (hh : h < 64) (hd : d < 64) : bits .or .i64 ((h : Int) * 64) (d : Int) = ((h * 64 + d : Nat) : Int) := by
  have e1 : h * 64 ||| d = h * 64 + d := by
    have := Nat.shiftLeft_add_eq_or_of_lt (b := d) (i := 6) (by omega) h
    rw [Nat.shiftLeft_eq] at this
    exact this.symm
  have a := i64_or_nat (h * 64) d (by omega) (by omega)
  rw [e1] at a
  rw [show ((h : Int) * 64) = ((h * 64 : Nat) : Int) from by omega, a]
/-- The boxes lie apart from one another, below the own rows, and above the caller's. -/
def DigNe (B0 base gt gh gb gn go : Nat) : Prop := (gh ≠ gt ∧ gh ≠ gb ∧ gh ≠ go ∧ gh ≠ gn ∧ gn ≠ gt ∧ gn ≠ gb ∧ gn ≠ go ∧ go ≠ gt ∧ go ≠ gb) ∧ gt < base ∧ gh < base ∧ gb < base ∧ gn < base ∧ go < base ∧ B0 ≤ gh ∧ B0 ≤ gn ∧ B0 ≤ go ∧ B0 ≤ base
set_option maxRecDepth 100000 in
set_option maxHeartbeats 1000000 in
theorem digF_zero (c : UInt8) (B0 base gt gh gb gn go : Nat) (h : Nat) (out : List UInt8) (w : World) (hD : DigAt base gt gh gb gn go (h, 0, out) w) (hh : h < 64) (hc : tabv c ≠ 0) (hne : DigNe B0 base gt gh gb gn go) :
    Calls Tryd.prog 44 #[.int .u8 (c.toNat : Int), .pointer (some ⟨gt, 0, none⟩), .pointer (some ⟨gh, 0, none⟩), .pointer (some ⟨gb, 0, none⟩), .pointer (some ⟨gn, 0, none⟩), .pointer (some ⟨go, 0, none⟩)] w fun e w' => e = .returned (.bool true) ∧ DigAt base gt gh gb gn go (digStep (h, 0, out) (tabv c - 1)) w' ∧ Below B0 w w' := by
  have c0 := hD.1.cell c.toNat
  rw [tab64_at] at c0
  have hcl : (c.toNat : Int) < 256 := by have := c.toNat_lt; omega
  have htv := tabv_le c
  obtain ⟨d, hd⟩ : ∃ d, tabv c = d + 1 := ⟨tabv c - 1, by omega⟩
  rw [hd] at c0
  have hd63 : d ≤ 63 := by omega
  have c1 := hD.2.1.cell 0
  have c2 := hD.2.2.1.cell 0
  have c3 := hD.2.2.2.1.cell 0
  have f1 := hD.2.1.frozen 0
  have f3 := hD.2.2.2.1.frozen 0
  simp only [List.getElem?_toArray, List.getElem?_cons_zero] at c1 c2 c3
  have hor := or6 h d hh (by omega)
  have h64 : h ≤ 63 := by omega
  have HD := hide hD; have HN := hide hne
  clear hD hc htv hh
  go_enter Tryd.func44, Tryd.ntmps44
  go_wp2
  obtain ⟨⟨n2, n3, n4, hgn, n5, n6, n7, n12, n13⟩, -⟩ := hne
  have n1 : gn ≠ gh := Ne.symm hgn
  have n8 := n2.symm; have n9 := n3.symm; have n10 := n5.symm; have n11 := n6.symm
  go_region
  go_wp2
  go_ret
  obtain ⟨d1, d2, d3, d4, v, d5, d6⟩ := unhide HD
  obtain ⟨-, o1, o2, o3, o4, o5, o6, o7, o8, o9⟩ := unhide HN
  have e1 : v.ownBlock ≠ some gh := fun e => by have := (d6.lt _ e).1; omega
  have e2 : v.ownBlock ≠ some gn := fun e => by have := (d6.lt _ e).1; omega
  refine ⟨rfl, ?_, (((Below.refl _ _).setCell (p := ⟨gh, 0, none⟩) o6 _).setCell (p := ⟨gn, 0, none⟩) o7 _).drew⟩
  have hst : digStep (h, 0, out) (tabv c - 1) = (h * 64 + d, 6, out) := by rw [hd]; rfl
  rw [hst]
  refine ⟨((d1.far (p := ⟨gh, 0, none⟩) n8 _).far (p := ⟨gn, 0, none⟩) n10 _).drew, ((d2.set_ 0 _).far (p := ⟨gn, 0, none⟩) hgn _).drew, ((d3.far (p := ⟨gh, 0, none⟩) n9 _).far (p := ⟨gn, 0, none⟩) n11 _).drew, ((d4.far (p := ⟨gh, 0, none⟩) n1 _).set_ 0 _).drew, v, ((d5.far (p := ⟨gh, 0, none⟩) n4.symm _).far (p := ⟨gn, 0, none⟩) n7.symm _).drew, ((d6.setCell (p := ⟨gh, 0, none⟩) e1 _).setCell (p := ⟨gn, 0, none⟩) e2 _).drew⟩
end Go.Proofs.YtphjpdnheaeghaaDoor

/-
  CONTRACT of package text: digits of six bits.
-/
import Derived.Test.YtaomecinemmdgaaRows
import Derived.Test.YtaomecinemmdgaaWd
import Derived.Test.YtaomecinemmdgaaEach
import Derived.Test.YtaomecinemmdgaaBytes
import Derived.Test.YtaomecinemmdgaaB64
import Derived.Test.YtaomecinemmdgaaUnBP
import Derived.Test.YtaomecinemmdgaaTab
import Derived.StillTailTactics
import Derived.Deep.RegionHeld3
import Derived.Deep.RegionLaw
set_option linter.unusedVariables false
set_option linter.unusedSimpArgs false
namespace Go.Proofs.Ytaomecinemmdgaa
open Go.RowKit Go.Lib
theorem step_appB {ops : Array Oper} {o : Oper} {a : Act} {K : Act → World → Prop} {Q : Exit → Act → World → Prop} {E : Prop} {w : World} (hgd : o.guard = none) (s x : Operand)
    (ho : o.op = .call { callee := .builtin .append, args := #[s, x], argTypes := #[56, 56] })
    {base : Nat} {v : Value} {bs : List UInt8} (hown : OwnB w base v bs) (hs : a.eval s = v) (ad : Addr) (m c : Nat) (nb : List UInt8) (hx : a.eval x = .slice (some ad) m c) (hm : nb.length = m)
    (hnews : ∀ j u, (byteCells nb)[j]? = some u → w.cell? (ad.add j) = some u) (h47 : bs.length + m ≤ 140737488355328) (hbase : base ≤ w.heap.size)
    (h : ∀ v' w', OwnB w' base v' (bs ++ nb) → w.grownBy w' v.ownBlock → (v'.ownBlock = v.ownBlock ∨ v'.ownBlock = some w.heap.size) → K (a.put o.dst v') w') :
    if Region.wanted o (yielded ops a.tmps) = true then Oper.wp Try.prog o a w K Q else E := by
  have hw : Region.wanted o (yielded ops a.tmps) = true := by simp [Region.wanted, hgd]
  rw [if_pos hw]
  obtain ⟨v', w', hr, h2, h3, h4⟩ := run_app_cells w o.type base v bs hown ad m c nb hm hnews h47 hbase
  unfold Oper.wp execOp
  simp only [ho, resolve, invoke, builtin, Sem.run_bind, Sem.run_pure, Result.andThen_ok, List.map_toArray, List.map_cons, List.map_nil, hs, hx, hr]
  exact h v' w' h2 h3 h4
theorem news1 (w : World) (z : Int) (x : UInt8) (hz : IntKind.u8.wrap z = (x.toNat : Int)) : ∀ j u, (byteCells [x])[j]? = some u → ((w.alloc (.cells #[.int .u8 (IntKind.u8.wrap z)] 5)).drew).cell? ((⟨w.heap.size, 0, none⟩ : Addr).add j) = some u := by
  intro j u h
  have hadd : (⟨w.heap.size, 0, none⟩ : Addr).add j = ⟨w.heap.size, j, none⟩ := by unfold Addr.add; split <;> simp_all
  rw [hadd, ((Blk.new w 5 _).drew).cell j, ← h, hz]
  simp [byteCells]
theorem u8_wrap4 (x : Nat) : IntKind.u8.wrap ((x : Int) / 4) = (((x / 4).toUInt8).toNat : Int) := by
  have e : ((x / 4).toUInt8).toNat = (x / 4) % 256 := UInt8.toNat_ofNat' ..
  rw [e]
  simp [IntKind.wrap, IntKind.bits, IntKind.signed]
theorem u8_wrap16 (x : Nat) : IntKind.u8.wrap ((x : Int) / 16) = (((x / 16).toUInt8).toNat : Int) := by
  have e : ((x / 16).toUInt8).toNat = (x / 16) % 256 := UInt8.toNat_ofNat' ..
  rw [e]
  simp [IntKind.wrap, IntKind.bits, IntKind.signed]
theorem u8_wrap (x : Nat) : IntKind.u8.wrap (x : Int) = ((x.toUInt8).toNat : Int) := by
  have e : (x.toUInt8).toNat = x % 256 := UInt8.toNat_ofNat' ..
  rw [e]
  simp [IntKind.wrap, IntKind.bits, IntKind.signed]
theorem OwnB.some {w : World} {base : Nat} {v : Value} {bs : List UInt8} (h : OwnB w base v bs) (hne : bs ≠ []) : ∃ g cap, v = .slice (some ⟨g, 0, none⟩) bs.length cap := by
  rcases h.form with ⟨_, he⟩ | ⟨g, cap, hv, _⟩
  · exact absurd he hne
  · exact ⟨g, cap, hv⟩
/-- What the closure's boxes hold. -/
def DigAt (base gt gh gb gn go : Nat) (st : Nat × Nat × List UInt8) (w : World) : Prop :=
  Blk w gt 130 tab64 ∧ Blk w gh 3 #[.int .i64 (st.1 : Int)] ∧ Blk w gb 3 #[.int .i64 6] ∧ Blk w gn 3 #[.int .i64 (st.2.1 : Int)] ∧ ∃ v, Blk w go 56 #[v] ∧ OwnB w base v st.2.2
theorem or6 (h d : Nat) (hh : h < 64) (hd : d < 64) : bits .or .i64 ((h : Int) * 64) (d : Int) = ((h * 64 + d : Nat) : Int) := by
  have e1 : h * 64 ||| d = h * 64 + d := by
    have := Nat.shiftLeft_add_eq_or_of_lt (b := d) (i := 6) (by omega) h
    rw [Nat.shiftLeft_eq] at this
    exact this.symm
  have a := i64_or_nat (h * 64) d (by omega) (by omega)
  rw [e1] at a
  rw [show ((h : Int) * 64) = ((h * 64 : Nat) : Int) from by omega, a]
/-- The boxes lie apart from one another, below the own rows, and above the caller's. -/
def DigNe (B0 base gt gh gb gn go : Nat) : Prop := (gh ≠ gt ∧ gh ≠ gb ∧ gh ≠ go ∧ gh ≠ gn ∧ gn ≠ gt ∧ gn ≠ gb ∧ gn ≠ go ∧ go ≠ gt ∧ go ≠ gb) ∧ gt < base ∧ gh < base ∧ gb < base ∧ gn < base ∧ go < base ∧ B0 ≤ gh ∧ B0 ≤ gn ∧ B0 ≤ go ∧ B0 ≤ base
end Go.Proofs.Ytaomecinemmdgaa

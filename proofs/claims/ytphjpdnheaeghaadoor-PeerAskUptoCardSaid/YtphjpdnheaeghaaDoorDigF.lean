/-
  CONTRACT of package text: the closure of digits, with 6 bits held.
-/
import Derived.Test.YtphjpdnheaeghaaDoorRows
import Derived.Test.YtphjpdnheaeghaaDoorWd
import Derived.Test.YtphjpdnheaeghaaDoorDig
import Derived.StillTailTactics
import Derived.Deep.RegionHeld3
import Derived.Deep.RegionLaw
set_option linter.unusedVariables false
set_option linter.unusedSimpArgs false
namespace Go.Proofs.YtphjpdnheaeghaaDoor
open Go.RowKit Go.Lib
set_option maxRecDepth 100000 in
set_option maxHeartbeats 2000000 in
theorem digF_six (c : UInt8) (B0 base gt gh gb gn go : Nat) (h : Nat) (out : List UInt8) (w : World) (hD : DigAt base gt gh gb gn go (h, 6, out) w) (hh : h < 64) (hc : tabv c ≠ 0) (hne : DigNe B0 base gt gh gb gn go) (hbase : base ≤ w.heap.size) (hlen : out.length + 1 ≤ 140737488355328) :
    Calls Tryd.prog 44 #[.int .u8 (c.toNat : Int), .pointer (some ⟨gt, 0, none⟩), .pointer (some ⟨gh, 0, none⟩), .pointer (some ⟨gb, 0, none⟩), .pointer (some ⟨gn, 0, none⟩), .pointer (some ⟨go, 0, none⟩)] w fun e w' => e = .returned (.bool true) ∧ DigAt base gt gh gb gn go (digStep (h, 6, out) (tabv c - 1)) w' ∧ Below B0 w w' := by
  have c0 := hD.1.cell c.toNat
  rw [tab64_at] at c0
  have hcl : (c.toNat : Int) < 256 := by have := c.toNat_lt; omega
  have htv := tabv_le c
  obtain ⟨d, hd⟩ : ∃ d, tabv c = d + 1 := ⟨tabv c - 1, by omega⟩
  rw [hd] at c0
  have hd63 : d ≤ 63 := by omega
  have c1 := hD.2.1.cell 0
  have c2 := hD.2.2.1.cell 0
  have c3 := hD.2.2.2.1.cell 0
  have f1 := hD.2.1.frozen 0
  have f3 := hD.2.2.2.1.frozen 0
  simp only [List.getElem?_toArray, List.getElem?_cons_zero] at c1 c2 c3
  have hor := or6 h d hh (by omega)
  have h64 : h ≤ 63 := by omega
  have HD := hide hD; have HB := hide hbase; have HN := hide hne
  clear hD hc htv hh hbase
  go_enter Tryd.func44, Tryd.ntmps44
  go_wp2
  obtain ⟨⟨n2, n3, n4, hgn, n5, n6, n7, n12, n13⟩, -⟩ := hne
  have n1 : gn ≠ gh := Ne.symm hgn
  have n8 := n2.symm; have n9 := n3.symm; have n10 := n5.symm; have n11 := n6.symm
  go_region
  go_wp2
  have hx : Hid (∃ x : Nat, (h : Int) * 64 + (d : Int) = (x : Int) ∧ x = h * 64 + d) := ⟨h * 64 + d, by omega, rfl⟩
  obtain ⟨x, hx1, hx2⟩ := hx.out
  rw [hx1]
  have hD2 : DigAt base gt gh gb gn go (x, 4, out) (((w.setCell ⟨gh, 0, none⟩ (.int .i64 (x : Int))).setCell ⟨gn, 0, none⟩ (.int .i64 12)).setCell ⟨gn, 0, none⟩ (.int .i64 4)).drew := by
    obtain ⟨d1, d2, d3, d4, v, d5, d6⟩ := unhide HD
    obtain ⟨-, o1, o2, o3, o4, o5, o6, o7, o8, o9⟩ := unhide HN
    have e1 : v.ownBlock ≠ some gh := fun e => by have := (d6.lt _ e).1; omega
    have e2 : v.ownBlock ≠ some gn := fun e => by have := (d6.lt _ e).1; omega
    exact ⟨(((d1.far (p := ⟨gh, 0, none⟩) n8 _).far (p := ⟨gn, 0, none⟩) n10 _).far (p := ⟨gn, 0, none⟩) n10 _).drew, (((d2.set_ 0 _).far (p := ⟨gn, 0, none⟩) hgn _).far (p := ⟨gn, 0, none⟩) hgn _).drew, (((d3.far (p := ⟨gh, 0, none⟩) n9 _).far (p := ⟨gn, 0, none⟩) n11 _).far (p := ⟨gn, 0, none⟩) n11 _).drew, (((d4.far (p := ⟨gh, 0, none⟩) n1 _).set_ 0 _).set_ 0 _).drew, v, (((d5.far (p := ⟨gh, 0, none⟩) n4.symm _).far (p := ⟨gn, 0, none⟩) n7.symm _).far (p := ⟨gn, 0, none⟩) n7.symm _).drew, (((d6.setCell (p := ⟨gh, 0, none⟩) e1 _).setCell (p := ⟨gn, 0, none⟩) e2 _).setCell (p := ⟨gn, 0, none⟩) e2 _).drew⟩
  have hb2 : Below B0 w (((w.setCell ⟨gh, 0, none⟩ (.int .i64 (x : Int))).setCell ⟨gn, 0, none⟩ (.int .i64 12)).setCell ⟨gn, 0, none⟩ (.int .i64 4)).drew := by
    obtain ⟨-, o1, o2, o3, o4, o5, o6, o7, o8, o9⟩ := unhide HN
    exact ((((Below.refl _ _).setCell (p := ⟨gh, 0, none⟩) o6 _).setCell (p := ⟨gn, 0, none⟩) o7 _).setCell (p := ⟨gn, 0, none⟩) o7 _).drew
  have hs2 : base ≤ (((w.setCell ⟨gh, 0, none⟩ (.int .i64 (x : Int))).setCell ⟨gn, 0, none⟩ (.int .i64 12)).setCell ⟨gn, 0, none⟩ (.int .i64 4)).drew.heap.size := by
    have := unhide HB
    simpa using this
  generalize (((w.setCell ⟨gh, 0, none⟩ (.int .i64 (x : Int))).setCell ⟨gn, 0, none⟩ (.int .i64 12)).setCell ⟨gn, 0, none⟩ (.int .i64 4)).drew = w1 at *
  clear c0 c1 c2 c3 f1 f3 HD HB
  obtain ⟨d1, d2, d3, d4, v, d5, d6⟩ := hD2
  have HE : Hid (v.ownBlock ≠ some gt ∧ v.ownBlock ≠ some gh ∧ v.ownBlock ≠ some gb ∧ v.ownBlock ≠ some gn ∧ v.ownBlock ≠ some go) := by
    obtain ⟨-, o1, o2, o3, o4, o5, o6, o7, o8, o9⟩ := unhide HN
    refine ⟨fun e => ?_, fun e => ?_, fun e => ?_, fun e => ?_, fun e => ?_⟩
    all_goals
      have := (d6.lt _ e).1
      omega
  have c1 := d2.cell 0
  have c3 := d4.cell 0
  have c5 := d5.cell 0
  simp only [List.getElem?_toArray, List.getElem?_cons_zero] at c1 c3 c5
  have hx12 : x ≤ 4095 := by omega
  have HX := hide (And.intro d1 (And.intro d2 (And.intro d3 (And.intro d4 (And.intro d5 (And.intro d6 hb2))))))
  have m1 := World.new_ne w1 _ c1
  have m3 := World.new_ne w1 _ c3
  have m5 := World.new_ne w1 _ c5
  have HX2 := Lib.hid hx2
  clear d1 d2 d3 d4 d5 d6 hx hx1 hor hx2 hb2
  have k5 : (w1.alloc (.cells #[.int .u8 (IntKind.u8.wrap ((x : Int) / 16))] 5)).cell? ⟨go, 0, none⟩ = some v := ((unhide HX).2.2.2.2.1.alloc _).cell 0
  have hand : bits .and .i64 (x : Int) 15 = ((x % 16 : Nat) : Int) := by
    have h := i64_and_nat x 15 (by omega) (by omega)
    rw [show (15 : Nat) = 2 ^ 4 - 1 from rfl, Nat.and_two_pow_sub_one_eq_mod] at h
    exact h
  go_region_law (first | (refine step_appB rfl (.tmp 28) (.tmp 33) rfl ((unhide HX).2.2.2.2.2.1.alloc _).drew rfl ⟨w1.heap.size, 0, none⟩ 1 1 [(x / 16).toUInt8] rfl rfl (news1 w1 _ _ (u8_wrap16 x)) hlen (by have := hs2; simp; omega) ?_; intro v' w2 hO2 hg2 hat2; obtain ⟨g2, cap2, rfl⟩ := hO2.some (by simp); have c12 : w2.cell? ⟨gh, 0, none⟩ = some (.int .i64 (x : Int)) := (((unhide HX).2.1.alloc _).drew.grown hg2 (unhide HE).2.1.symm).cell 0; have c32 : w2.cell? ⟨gn, 0, none⟩ = some (.int .i64 4) := (((unhide HX).2.2.2.1.alloc _).drew.grown hg2 (unhide HE).2.2.2.1.symm).cell 0; have c52 : w2.cell? ⟨go, 0, none⟩ = some v := (((unhide HX).2.2.2.2.1.alloc _).drew.grown hg2 (unhide HE).2.2.2.2.symm).cell 0; have f52 := (((unhide HX).2.2.2.2.1.alloc (.cells #[.int .u8 (IntKind.u8.wrap ((x : Int) / 16))] 5)).drew.grown hg2 (unhide HE).2.2.2.2.symm).frozen 0; have f12 := (((unhide HX).2.1.alloc (.cells #[.int .u8 (IntKind.u8.wrap ((x : Int) / 16))] 5)).drew.grown hg2 (unhide HE).2.1.symm).frozen 0))
  all_goals (
    have H2 := hide (And.intro hO2 (And.intro hg2 hat2)); clear hO2 hg2 hat2 k5 c1 c3 c5
    go_wp2
    go_region
    go_wp2
    go_ret
    obtain ⟨hO2, hg2, hat2⟩ := unhide H2
    obtain ⟨d1, d2, d3, d4, d5, d6, hb2⟩ := unhide HX
    obtain ⟨e1, e2, e3, e4, e5⟩ := unhide HE
    obtain ⟨-, o1, o2, o3, o4, o5, o6, o7, o8, o9⟩ := unhide HN
    have hst : digStep (h, 6, out) (tabv c - 1) = (x % 16, 4, out ++ [(x / 16).toUInt8]) := by rw [hd, HX2.out]; rfl
    rw [hst]
    have hne2 : ∀ g, g < base → (Value.slice (some ⟨g2, 0, none⟩) (out ++ [(x / 16).toUInt8]).length cap2).ownBlock ≠ some g := fun g hg e => by have := (hO2.lt _ e).1; omega
    have hlen2 : (out ++ [(x / 16).toUInt8]).length = out.length + 1 := by simp
    rw [hlen2] at hO2 hne2
    have a1 := (((d1.alloc (.cells #[.int .u8 (IntKind.u8.wrap ((x : Int) / 16))] 5)).drew.grown hg2 e1.symm).far (p := ⟨go, 0, none⟩) n12.symm (.slice (some ⟨g2, 0, none⟩) (out.length + 1) cap2)).far (p := ⟨gh, 0, none⟩) n8 (.int .i64 ((x % 16 : Nat) : Int))
    have a2 := (((d2.alloc (.cells #[.int .u8 (IntKind.u8.wrap ((x : Int) / 16))] 5)).drew.grown hg2 e2.symm).far (p := ⟨go, 0, none⟩) n4 (.slice (some ⟨g2, 0, none⟩) (out.length + 1) cap2)).set_ 0 (.int .i64 ((x % 16 : Nat) : Int))
    have a3 := (((d3.alloc (.cells #[.int .u8 (IntKind.u8.wrap ((x : Int) / 16))] 5)).drew.grown hg2 e3.symm).far (p := ⟨go, 0, none⟩) n13.symm (.slice (some ⟨g2, 0, none⟩) (out.length + 1) cap2)).far (p := ⟨gh, 0, none⟩) n9 (.int .i64 ((x % 16 : Nat) : Int))
    have a4 := (((d4.alloc (.cells #[.int .u8 (IntKind.u8.wrap ((x : Int) / 16))] 5)).drew.grown hg2 e4.symm).far (p := ⟨go, 0, none⟩) n7 (.slice (some ⟨g2, 0, none⟩) (out.length + 1) cap2)).far (p := ⟨gh, 0, none⟩) n1 (.int .i64 ((x % 16 : Nat) : Int))
    have a5 := (((d5.alloc (.cells #[.int .u8 (IntKind.u8.wrap ((x : Int) / 16))] 5)).drew.grown hg2 e5.symm).set_ 0 (.slice (some ⟨g2, 0, none⟩) (out.length + 1) cap2)).far (p := ⟨gh, 0, none⟩) n4.symm (.int .i64 ((x % 16 : Nat) : Int))
    have a6 := (hO2.setCell (p := ⟨go, 0, none⟩) (hne2 _ o5) (.slice (some ⟨g2, 0, none⟩) (out.length + 1) cap2)).setCell (p := ⟨gh, 0, none⟩) (hne2 _ o2) (.int .i64 ((x % 16 : Nat) : Int))
    have a7 : Below B0 w w2 := ((hb2.alloc (by have := hs2; omega) _).drew).grown hg2 (by have := hs2; simp; omega) (fun q hq => by have := (d6.lt _ hq).1; omega)
    have a8 := (a7.setCell (p := ⟨go, 0, none⟩) o8 (.slice (some ⟨g2, 0, none⟩) (out.length + 1) cap2)).setCell (p := ⟨gh, 0, none⟩) o6 (.int .i64 ((x % 16 : Nat) : Int))
    have hz : ((x % 16 : Nat) : Int) = (x : Int) % 16 := by omega
    rw [hz] at a1 a2 a3 a4 a5 a6 a8
    refine ⟨rfl, ⟨a1.drew, ?_, a3.drew, a4.drew, _, a5.drew, a6.drew⟩, a8.drew⟩
    rw [hz]
    exact a2.drew)
end Go.Proofs.YtphjpdnheaeghaaDoor

/-
  CONTRACT of the law's helper sigs: what must be told of keys for a text.
-/
import Derived.Test.YtfhaoamlagnpjaaDoorRows
import Derived.Deep.RegionHeld3
import Derived.Deep.DeepMust
import Derived.Deep.CutRange
import Derived.Deep.CutBlock
import Derived.Outline
import Derived.Test.YtfhaoamlagnpjaaDoorGBase
import Derived.Test.YtfhaoamlagnpjaaDoorGKs
import Derived.Test.YtfhaoamlagnpjaaDoorGMacs
import Derived.Test.YtfhaoamlagnpjaaDoorGOp
import Derived.Test.YtfhaoamlagnpjaaDoorSOwner
set_option linter.unusedVariables false
set_option linter.unusedSimpArgs false
namespace Go.Proofs.YtfhaoamlagnpjaaDoor
open Go.RowKit Go.Lib
/-- What stands while one signature is made. -/
structure SgS (w : World) (a : Addr) (kn ksc : ByteArray) (v : Value) (acc : List SigR) (W : World) : Prop where
  c0 : W.cell? a = some (.string kn)
  c1 : W.cell? ⟨a.block, a.off + 1, none⟩ = some (.string ksc)
  tab : PTab W
  own : OwnG W w.heap.size v acc
  below : Below w.heap.size w W
theorem SgS.next {w W W' : World} {a : Addr} {kn ksc : ByteArray} {v : Value} {acc : List SigR} (h : SgS w a kn ksc v acc W) (hb : Below W.heap.size W W') : SgS w a kn ksc v acc W' :=
  ⟨(hb.cell (World.block_lt_of_cell? W _ h.c0)).trans h.c0, (hb.cell (World.block_lt_of_cell? W _ h.c1)).trans h.c1, h.tab.next hb, h.own.below hb, h.below.trans (hb.mono h.below.size)⟩
theorem SgS.drew {w W : World} {a : Addr} {kn ksc : ByteArray} {v : Value} {acc : List SigR} (h : SgS w a kn ksc v acc W) : SgS w a kn ksc v acc W.drew := h.next (Below.refl _ _).drew
def sgsCut (w : World) (l : List SigR) (v : Value) (wx : World) : Prop := OwnG wx w.heap.size v l ∧ Below w.heap.size w wx
set_option maxRecDepth 100000 in
set_option maxHeartbeats 4000000 in
theorem sigs_any (t : ByteArray) (v : Value) (ks : List KeyR) (w : World) (ht : t.size ≤ 1099511627776) (hks : ∀ k ∈ ks, k.nm.size ≤ 1099511627776 ∧ k.sc.size ≤ 1099511627776) (hn : ks.length ≤ 1099511627776) (hV : KeysAt w v ks) (hT : PTab w) :
    Calls Tryd.prog 34 #[v, .string t] w fun e w' => ∃ v', e = .returned v' ∧ OwnG w' w.heap.size v' (ks.map (keySig t)) ∧ Below w.heap.size w w' := by
  obtain ⟨A, c, rfl, -⟩ := id hV
  have HKS := hide hks; have HV := hide hV; have HT := hide hT; clear hks hV hT
  go_enter Tryd.func34, Tryd.ntmps34
  go_wp2_with fail
  go_loopw [5, 6] (fun u i wr => ∃ (k : Nat), i = .int .i64 k ∧ k ≤ ks.length ∧ OwnG wr w.heap.size u ((ks.take k).map (keySig t)) ∧ Below w.heap.size w wr) (fun _ i _ => ks.length - (RowKit.intOf i).toNat)
  case atStart => exact ⟨0, rfl, by omega, OwnG.nil _ _, Below.refl _ _⟩
  case round =>
    obtain ⟨k, rfl, hk, hO, hb⟩ := hrel
    rcases Nat.lt_or_ge k ks.length with hlt | hge
    · have t1 : (k : Int) < (ks.length : Int) := by omega
      obtain ⟨a, rfl, cw0, cw1⟩ := (unhide HV).at_ k hlt
      have hab : (a.add (k * 2)).block < w.heap.size := World.block_lt_of_cell? w _ cw0
      have c0 := (hb.cell hab).trans cw0; have c1 := (hb.cell (p := ⟨(a.add (k * 2)).block, (a.add (k * 2)).off + 1, none⟩) hab).trans cw1
      have hkk := unhide HKS _ (List.getElem_mem hlt)
      have hst : Hid ((ks.take (k + 1)).map (keySig t) = (ks.take k).map (keySig t) ++ [keySig t ks[k]]) := by
        rw [Hid, List.take_succ_eq_append_getElem hlt, List.map_append]; rfl
      have hll : ((ks.take k).map (keySig t)).length ≤ k := by rw [List.length_map, List.length_take]; omega
      have hke : keySig t ks[k] = ⟨ks[k].nm, kidB ks[k], macB ks[k].sc t⟩ := rfl
      rw [hke] at hst
      have hki : ∀ W, PTab W → Calls Tryd.prog 39 #[.string ks[k].nm, .string ks[k].sc] W fun e w' => e = .returned (.string (kidB ks[k])) ∧ Below W.heap.size W w' := fun W h => keyID_any ks[k].nm ks[k].sc W (by omega) (by omega) h.1 h.2
      have hsm : ∀ W, PTab W → Calls Tryd.prog 69 #[.string ks[k].sc, .string t] W fun e w' => e = .returned (.string (macB ks[k].sc t)) ∧ Below W.heap.size W w' := fun W h => mac_any ks[k].sc t W (by omega) (by omega) h.1 h.2
      generalize kidB ks[k] = kid at *
      generalize macB ks[k].sc t = mb at *
      generalize (ks.take k).map (keySig t) = acc at *
      obtain ⟨acc2, hacc2⟩ : ∃ acc2, Hid ((ks.take (k + 1)).map (keySig t) = acc2) := ⟨_, Lib.hid rfl⟩
      rw [hacc2.out] at hst
      generalize ks[k] = key at *
      obtain ⟨kn, ksc⟩ := key
      simp only at hkk c0 c1 cw0 cw1 hst hki hsm
      obtain ⟨wo, hwo⟩ : ∃ wo : World, wo = wr := ⟨_, rfl⟩
      subst hwo
      have hS0 : SgS w (a.add (k * 2)) kn ksc u5 acc wo := ⟨c0, c1, (unhide HT).next hb, hO, hb⟩
      have hal : (a.add (k * 2)).block < wo.heap.size := World.block_lt_of_cell? wo _ c0
      have hn0 := World.new_ne wo _ c0
      have HS0 := hide hS0; have HKI := hide hki; have HSM := hide hsm; clear hS0 hki hsm hkk hke hO hb
      go_upto_block 1 with fail
      go_cut [5] from 7 to 39 (fun s5 wx => sgsCut w acc2 s5 wx)
      case first =>
        go_wp2_with fail
        go_region_held3 (fun W => W.cell? (a.add (k * 2)) = some (.string kn) ∧ W.cell? ⟨(a.add (k * 2)).block, (a.add (k * 2)).off + 1, none⟩ = some (.string ksc)) (go_keep) (first
          | (go_at_call 39; first | (refine ((unhide HKI) wo.drew (unhide HS0).drew.tab).mono ?_; rintro e w2 ⟨rfl, hb2⟩; have hS2 := (unhide HS0).drew.next hb2; have c02 := hS2.c0; have c12 := hS2.c1; have hn2 := World.new_ne w2 _ c02; have HS2 := hide hS2; clear hS2 hb2) | (refine ((unhide HKI) w2 (unhide HS2).tab).mono ?_; rintro e w3 ⟨rfl, hb3⟩; have hS3 := (unhide HS2).next hb3; have c03 := hS3.c0; have c13 := hS3.c1; have hn3 := World.new_ne w3 _ c03; have HS3 := hide hS3; clear hS3 hb3))
          | (go_at_call 69; first | (refine ((unhide HSM) wo.drew (unhide HS0).drew.tab).mono ?_; rintro e w2 ⟨rfl, hb2⟩; have hS2 := (unhide HS0).drew.next hb2; have c02 := hS2.c0; have c12 := hS2.c1; have hn2 := World.new_ne w2 _ c02; have HS2 := hide hS2; clear hS2 hb2) | (refine ((unhide HSM) w2 (unhide HS2).tab).mono ?_; rintro e w3 ⟨rfl, hb3⟩; have hS3 := (unhide HS2).next hb3; have c03 := hS3.c0; have c13 := hS3.c1; have hn3 := World.new_ne w3 _ c03; have HS3 := hide hS3; clear hS3 hb3))
          | (refine step_appG1 w3 w3.heap.size rfl rfl _ _ rfl (y := ⟨kn, kid, mb⟩) (unhide HS3).own rfl rfl (by omega) (unhide HS3).below.size ?_; intro v6 w6 hO6 hg6 hat6; have hc6 : sgsCut w acc2 v6 w6 := ⟨by rw [hst.out]; exact hO6, ((unhide HS3).below.alloc (unhide HS3).below.size _).grown hg6 (by have := (unhide HS3).below.size; simp; omega) (fun q hq => ((unhide HS3).own.lt _ hq).1)⟩; have c06 : w6.cell? (a.add (k * 2)) = some (.string kn) := (hc6.2.cell hab).trans cw0; have c16 : w6.cell? ⟨(a.add (k * 2)).block, (a.add (k * 2)).off + 1, none⟩ = some (.string ksc) := (hc6.2.cell (p := ⟨(a.add (k * 2)).block, (a.add (k * 2)).off + 1, none⟩) hab).trans cw1; have HC6 := hide hc6; clear hc6 hO6 hg6 hat6))
        all_goals
          go_wp2_with fail
          go_meet
          case rel => exact unhide HC6
      case rest =>
        have HC := hide hcut
        clear hcut
        go_wp2_with fail
        go_roundw
        case rel => exact ⟨k + 1, by go_num, by omega, by rw [hacc2.out]; exact (unhide HC).1, (unhide HC).2⟩
        case measure => simp [RowKit.intOf]; omega
    · have t1 : ¬ (k : Int) < (ks.length : Int) := by omega
      rw [List.take_of_length_le hge] at hO
      have HX := hide (And.intro hO hb); clear hO hb
      go_wp2_with fail
      go_ret
      exact ⟨_, rfl, (unhide HX).1, (unhide HX).2⟩
end Go.Proofs.YtfhaoamlagnpjaaDoor

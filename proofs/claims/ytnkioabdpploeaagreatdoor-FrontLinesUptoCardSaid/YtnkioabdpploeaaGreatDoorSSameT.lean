/-
  CONTRACTS of the law's sameInts, sameTexts, sameReply on equal lists; of ints, words (copies with a mark behind them).
-/
import Derived.Test.YtnkioabdpploeaaGreatDoorRows
import Derived.BigQuiet
import Derived.Deep.QuietTactic
import Derived.Test.YtnkioabdpploeaaGreatDoorGBase
import Derived.Test.YtnkioabdpploeaaGreatDoorGLns
import Derived.Test.YtnkioabdpploeaaGreatDoorSRScript
import Derived.Test.YtnkioabdpploeaaGreatDoorSTWords
import Derived.Test.YtnkioabdpploeaaGreatDoorSRStep
import Derived.Test.YtnkioabdpploeaaGreatDoorGTld
import Derived.Test.YtnkioabdpploeaaGreatDoorGApt
set_option linter.unusedVariables false
set_option linter.unusedSimpArgs false
namespace Go.Proofs.YtnkioabdpploeaaGreatDoor
open Go.RowKit Go.Lib
set_option maxRecDepth 100000 in
set_option maxHeartbeats 2000000 in
theorem sameInts27_eq (v1 v2 : Value) (l : List Int) (w : World) (hn : l.length ≤ 562949953421312) (h1 : IntsAt w v1 l) (h2 : IntsAt w v2 l) :
    Calls Tryz.prog 27 #[v1, v2] w fun e w' => e = .returned (.bool true) ∧ ∃ n, w' = w.drewN n := by
  obtain ⟨A, c, rfl, -⟩ := id h1
  obtain ⟨B, d, rfl, -⟩ := id h2
  have H := hide (And.intro h1 h2); clear h1 h2
  go_enter Tryz.func27, Tryz.ntmps27
  go_wp2_with fail
  go_loopw [5] (fun i wr => ∃ k : Nat, i = .int .i64 (k : Int) ∧ k ≤ l.length ∧ ∃ nd, Hid (wr = w.drewN nd)) (fun i _ => l.length - (RowKit.intOf i).toNat)
  case atStart => exact ⟨0, rfl, by omega, 0, Lib.hid rfl⟩
  case round =>
    obtain ⟨k, rfl, hk, nd, hw⟩ := hrel
    have hw' := hw.out
    subst hw'
    rcases Nat.lt_or_ge k l.length with hlt | hge
    · have t0 : (0 : Int) ≤ (k : Int) := by omega
      have qb : k ≤ 562949953421312 := by omega
      have t1 : (k : Int) < (l.length : Int) := by omega
      obtain ⟨a, rfl, ca⟩ := ints_at (unhide H).1 k hlt
      obtain ⟨b, rfl, cb⟩ := ints_at (unhide H).2 k hlt
      have da : (w.drewN nd).cell? (a.add k) = some (.int .i64 l[k]) := ca
      have db : (w.drewN nd).cell? (b.add k) = some (.int .i64 l[k]) := cb
      generalize l[k] = x at *
      go_wp2_with fail
      go_quiet (fail)
      go_wp2_with fail
      refine ⟨⟨k + 1, by go_num, by omega, nd + nq, Lib.hid rfl⟩, by simp [RowKit.intOf]; omega⟩
    · have t1 : ¬ (k : Int) < (l.length : Int) := by omega
      go_wp2_with fail
      go_ret
      exact ⟨rfl, nd, rfl⟩
set_option maxRecDepth 100000 in
set_option maxHeartbeats 2000000 in
theorem sameTexts27_eq (v1 v2 : Value) (l : List ByteArray) (w : World) (hn : l.length ≤ 562949953421312) (h1 : StrsAt w v1 l) (h2 : StrsAt w v2 l) :
    Calls Tryz.prog 28 #[v1, v2] w fun e w' => e = .returned (.bool true) ∧ ∃ n, w' = w.drewN n := by
  obtain ⟨A, c, rfl, -⟩ := id h1
  obtain ⟨B, d, rfl, -⟩ := id h2
  have H := hide (And.intro h1 h2); clear h1 h2
  go_enter Tryz.func28, Tryz.ntmps28
  go_wp2_with fail
  go_loopw [5] (fun i wr => ∃ k : Nat, i = .int .i64 (k : Int) ∧ k ≤ l.length ∧ ∃ nd, Hid (wr = w.drewN nd)) (fun i _ => l.length - (RowKit.intOf i).toNat)
  case atStart => exact ⟨0, rfl, by omega, 0, Lib.hid rfl⟩
  case round =>
    obtain ⟨k, rfl, hk, nd, hw⟩ := hrel
    have hw' := hw.out
    subst hw'
    rcases Nat.lt_or_ge k l.length with hlt | hge
    · have t0 : (0 : Int) ≤ (k : Int) := by omega
      have qb : k ≤ 562949953421312 := by omega
      have t1 : (k : Int) < (l.length : Int) := by omega
      obtain ⟨a, rfl, ca⟩ := strs_at (unhide H).1 k hlt
      obtain ⟨b, rfl, cb⟩ := strs_at (unhide H).2 k hlt
      have da : (w.drewN nd).cell? (a.add k) = some (.string l[k]) := ca
      have db : (w.drewN nd).cell? (b.add k) = some (.string l[k]) := cb
      generalize l[k] = x at *
      have hss : (x.toList == x.toList) = true := beq_self_eq_true _
      go_wp2_with fail
      go_quiet (fail)
      go_wp2_with fail
      refine ⟨⟨k + 1, by go_num, by omega, nd + nq, Lib.hid rfl⟩, by simp [RowKit.intOf]; omega⟩
    · have t1 : ¬ (k : Int) < (l.length : Int) := by omega
      go_wp2_with fail
      go_ret
      exact ⟨rfl, nd, rfl⟩
theorem IntsAt.low {w w' : World} {v : Value} {l : List Int} (h : IntsAt w v l) (hb : Below w.heap.size w w') : IntsAt w' v l := h.below hb
set_option maxRecDepth 100000 in
set_option maxHeartbeats 2000000 in
theorem sameReply27_eq (c : Int) (vn un vs us : Value) (N : List Int) (S : List ByteArray) (w : World) (hn : N.length ≤ 562949953421312) (hs : S.length ≤ 562949953421312) (h1 : IntsAt w vn N) (h2 : IntsAt w un N) (h3 : StrsAt w vs S) (h4 : StrsAt w us S) :
    Calls Tryz.prog 18 #[.agg #[.int .i64 c, vn, vs], .agg #[.int .i64 c, un, us]] w fun e w' => e = .returned (.bool true) ∧ Below w.heap.size w w' := by
  have hW : Hid (((w.alloc (.cells #[.int .i64 c, vn, vs] 44)).alloc (.cells #[.int .i64 c, un, us] 44)) = ((w.alloc (.cells #[.int .i64 c, vn, vs] 44)).alloc (.cells #[.int .i64 c, un, us] 44))) := Lib.hid rfl
  have hb : Below w.heap.size w ((w.alloc (.cells #[.int .i64 c, vn, vs] 44)).alloc (.cells #[.int .i64 c, un, us] 44)) := ((Below.refl _ _).alloc (Nat.le_refl _) _).alloc (by simp) _
  have hSI := sameInts27_eq vn un N ((w.alloc (.cells #[.int .i64 c, vn, vs] 44)).alloc (.cells #[.int .i64 c, un, us] 44)) hn (h1.below hb) (h2.below hb)
  have hST := fun n => sameTexts27_eq vs us S (((w.alloc (.cells #[.int .i64 c, vn, vs] 44)).alloc (.cells #[.int .i64 c, un, us] 44)).drewN n) hs (h3.below (show Below w.heap.size w (World.drewN _ n) from ⟨hb.os, hb.tape, hb.output, hb.size, hb.block⟩)) (h4.below (show Below w.heap.size w (World.drewN _ n) from ⟨hb.os, hb.tape, hb.output, hb.size, hb.block⟩))
  have hB1 := (Blk.new w 44 #[.int .i64 c, vn, vs]).alloc (.cells #[.int .i64 c, un, us] 44)
  have hB2 := Blk.new (w.alloc (.cells #[.int .i64 c, vn, vs] 44)) 44 #[.int .i64 c, un, us]
  obtain ⟨A1, c1, rfl, -⟩ := id h1
  obtain ⟨A2, c2, rfl, -⟩ := id h2
  obtain ⟨A3, c3, rfl, -⟩ := id h3
  obtain ⟨A4, c4, rfl, -⟩ := id h4
  have HI := hide hSI; have HT := hide hST; have HB := hide hb; have HB1 := hide (And.intro hB1 hB2)
  clear hSI hST hb hB1 hB2 h1 h2 h3 h4
  go_enter Tryz.func18, Tryz.ntmps18
  go_upto_region 1 with fail
  generalize ((w.alloc (.cells #[.int .i64 c, .slice A1 N.length c1, .slice A3 S.length c3] 44)).alloc (.cells #[.int .i64 c, .slice A2 N.length c2, .slice A4 S.length c4] 44)) = w2 at *
  have j1 := (unhide HB1).1.cell 1; have j2 := (unhide HB1).2.cell 1
  rw [World.size_alloc] at j2
  simp only [List.getElem?_toArray, List.getElem?_cons_zero, List.getElem?_cons_succ] at j1 j2
  go_wp2_with fail
  refine (unhide HI).mono ?_
  rintro e1 w3 ⟨rfl, n1, rfl⟩
  have k0 : (w2.drewN n1).cell? ⟨w.heap.size, 0, none⟩ = some (.int .i64 c) := (unhide HB1).1.cell 0
  have k2 : (w2.drewN n1).cell? ⟨w.heap.size, 2, none⟩ = some (.slice A3 S.length c3) := (unhide HB1).1.cell 2
  have l0 : (w2.drewN n1).cell? ⟨w.heap.size + 1, 0, none⟩ = some (.int .i64 c) := by have h := (unhide HB1).2.cell 0; rw [World.size_alloc] at h; exact h
  have l2 : (w2.drewN n1).cell? ⟨w.heap.size + 1, 2, none⟩ = some (.slice A4 S.length c4) := by have h := (unhide HB1).2.cell 2; rw [World.size_alloc] at h; exact h
  clear j1 j2 HI
  go_wp2_with fail
  refine (unhide HT n1).mono ?_
  rintro e2 w4 ⟨rfl, n2, rfl⟩
  have k0 : (w2.drewN (n1 + n2)).cell? ⟨w.heap.size, 0, none⟩ = some (.int .i64 c) := (unhide HB1).1.cell 0
  have l0 : (w2.drewN (n1 + n2)).cell? ⟨w.heap.size + 1, 0, none⟩ = some (.int .i64 c) := by have h := (unhide HB1).2.cell 0; rw [World.size_alloc] at h; exact h
  go_wp2_with fail
  go_ret
  exact ⟨rfl, ⟨(unhide HB).os, (unhide HB).tape, (unhide HB).output, (unhide HB).size, (unhide HB).block⟩⟩
/-- A copy with a mark behind it. -/
def MkI (W : World) (g cap : Nat) (l : List Int) : Prop := W.ownsRow g 3 1 (.slice (some ⟨g, 0, none⟩) (l.length + 1) cap) (l.length + 1) ((l ++ [-7]).map (Value.int .i64))
def markS : ByteArray := ⟨#[109, 97, 114, 107]⟩
def MkT (W : World) (g cap : Nat) (l : List ByteArray) : Prop := W.ownsRow g 9 1 (.slice (some ⟨g, 0, none⟩) (l.length + 1) cap) (l.length + 1) ((l ++ [markS]).map Value.string)
theorem MkI.cap {W : World} {g cap : Nat} {l : List Int} (h : MkI W g cap l) : l.length + 1 ≤ cap := by
  rcases h.2 with ⟨hv, -⟩ | ⟨g1, c1, cur, hv, -, -, hc, -⟩
  · cases hv
  · injection hv with _ h2 h3; omega
theorem MkT.cap {W : World} {g cap : Nat} {l : List ByteArray} (h : MkT W g cap l) : l.length + 1 ≤ cap := by
  rcases h.2 with ⟨hv, -⟩ | ⟨g1, c1, cur, hv, -, -, hc, -⟩
  · cases hv
  · injection hv with _ h2 h3; omega
theorem MkI.ints {W : World} {g cap : Nat} {l : List Int} (h : MkI W g cap l) (c : Nat) : IntsAt W (.slice (some ⟨g, 0, none⟩) l.length c) l := by
  refine ⟨_, c, rfl, fun j hj => ⟨_, rfl, ?_⟩⟩
  have hadd : (⟨g, 0, none⟩ : Addr).add j = ⟨g, j, none⟩ := by unfold Addr.add; split <;> simp_all
  rw [hadd, World.ownsRow.cellAt h j (by omega)]
  rw [List.getElem?_map, List.getElem?_append_left hj, List.getElem?_eq_getElem hj]; rfl
theorem MkI.mark {W : World} {g cap : Nat} {l : List Int} (h : MkI W g cap l) : W.cell? ⟨g, l.length, none⟩ = some (.int .i64 (-7)) := by
  rw [World.ownsRow.cellAt h l.length (by omega)]; simp
theorem MkT.mark {W : World} {g cap : Nat} {l : List ByteArray} (h : MkT W g cap l) : W.cell? ⟨g, l.length, none⟩ = some (.string markS) := by
  rw [World.ownsRow.cellAt h l.length (by omega)]; simp
end Go.Proofs.YtnkioabdpploeaaGreatDoor

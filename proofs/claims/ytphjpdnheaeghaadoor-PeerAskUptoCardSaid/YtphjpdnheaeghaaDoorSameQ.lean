/-
  CONTRACTS of the law's sameTexts, sameRequest on equal requests; a copy with a mark behind it.
-/
import Derived.Test.YtphjpdnheaeghaaDoorRows
import Derived.Test.YtphjpdnheaeghaaDoorWd
import Derived.Test.YtphjpdnheaeghaaDoorStrRow
import Derived.Test.YtphjpdnheaeghaaDoorRPAsk
import Derived.Test.YtphjpdnheaeghaaDoorApartP
import Derived.BigQuiet
import Derived.Deep.QuietTactic
set_option linter.unusedVariables false
set_option linter.unusedSimpArgs false
namespace Go.Proofs.YtphjpdnheaeghaaDoor
open Go.RowKit Go.Lib
set_option maxRecDepth 100000 in
set_option maxHeartbeats 2000000 in
theorem sameTexts22_eq (v1 v2 : Value) (l : List ByteArray) (w : World) (hn : l.length ≤ 562949953421312) (h1 : StrsAt w v1 l) (h2 : StrsAt w v2 l) :
    Calls Tryd.prog 25 #[v1, v2] w fun e w' => e = .returned (.bool true) ∧ ∃ n, w' = w.drewN n := by
  obtain ⟨A, c, rfl, -⟩ := id h1
  obtain ⟨B, d, rfl, -⟩ := id h2
  have H := hide (And.intro h1 h2); clear h1 h2
  go_enter Tryd.func25, Tryd.ntmps25
  go_wp2_with fail
  go_loopw [5] (fun i wr => ∃ k : Nat, i = .int .i64 (k : Int) ∧ k ≤ l.length ∧ ∃ nd, Hid (wr = w.drewN nd)) (fun i _ => l.length - (RowKit.intOf i).toNat)
  case atStart => exact ⟨0, rfl, by omega, 0, Lib.hid rfl⟩
  case round =>
    obtain ⟨k, rfl, hk, nd, hw⟩ := hrel
    have hw' := hw.out
    subst hw'
    rcases Nat.lt_or_ge k l.length with hlt | hge
    · have t0 : (0 : Int) ≤ (k : Int) := by omega
      have qb : k ≤ 562949953421312 := by omega
      have t1 : (k : Int) < (l.length : Int) := by omega
      obtain ⟨a, rfl, ca⟩ := strsP_at (unhide H).1 k hlt
      obtain ⟨b, rfl, cb⟩ := strsP_at (unhide H).2 k hlt
      have da : (w.drewN nd).cell? (a.add k) = some (.string l[k]) := ca
      have db : (w.drewN nd).cell? (b.add k) = some (.string l[k]) := cb
      generalize l[k] = x at *
      have hss : (x.toList == x.toList) = true := beq_self_eq_true _
      go_wp2_with fail
      go_quiet (fail)
      go_wp2_with fail
      refine ⟨⟨k + 1, by go_num, by omega, nd + nq, Lib.hid rfl⟩, by simp [RowKit.intOf]; omega⟩
    · have t1 : ¬ (k : Int) < (l.length : Int) := by omega
      go_wp2_with fail
      go_ret
      exact ⟨rfl, nd, rfl⟩
set_option maxRecDepth 100000 in
set_option maxHeartbeats 2000000 in
theorem sameRequest22_eq (c : Int) (vs us : Value) (S : List ByteArray) (nt : ByteArray) (w : World) (hs : S.length ≤ 562949953421312) (h3 : StrsAt w vs S) (h4 : StrsAt w us S) :
    Calls Tryd.prog 9 #[.agg #[.int .i64 c, vs, .string nt], .agg #[.int .i64 c, us, .string nt]] w fun e w' => e = .returned (.bool true) ∧ Below w.heap.size w w' := by
  have hb : Below w.heap.size w ((w.alloc (.cells #[.int .i64 c, vs, .string nt] 24)).alloc (.cells #[.int .i64 c, us, .string nt] 24)) := ((Below.refl _ _).alloc (Nat.le_refl _) _).alloc (by simp) _
  have hST := sameTexts22_eq vs us S ((w.alloc (.cells #[.int .i64 c, vs, .string nt] 24)).alloc (.cells #[.int .i64 c, us, .string nt] 24)) hs (h3.below hb) (h4.below hb)
  have hB1 := (Blk.new w 24 #[.int .i64 c, vs, .string nt]).alloc (.cells #[.int .i64 c, us, .string nt] 24)
  have hB2 := Blk.new (w.alloc (.cells #[.int .i64 c, vs, .string nt] 24)) 24 #[.int .i64 c, us, .string nt]
  rw [World.size_alloc] at hB2
  obtain ⟨A3, c3, rfl, -⟩ := id h3
  obtain ⟨A4, c4, rfl, -⟩ := id h4
  have HT := hide hST; have HB := hide hb; have HB1 := hide (And.intro hB1 hB2)
  clear hST hb hB1 hB2 h3 h4
  go_enter Tryd.func9, Tryd.ntmps9
  go_upto_region 1 with fail
  generalize ((w.alloc (.cells #[.int .i64 c, .slice A3 S.length c3, .string nt] 24)).alloc (.cells #[.int .i64 c, .slice A4 S.length c4, .string nt] 24)) = w2 at *
  have j1 := (unhide HB1).1.cell 1; have j2 := (unhide HB1).2.cell 1
  simp only [List.getElem?_toArray, List.getElem?_cons_zero, List.getElem?_cons_succ] at j1 j2
  go_wp2_with fail
  refine (unhide HT).mono ?_
  rintro e2 w4 ⟨rfl, n2, rfl⟩
  have k0 : (w2.drewN n2).cell? ⟨w.heap.size, 0, none⟩ = some (.int .i64 c) := (unhide HB1).1.cell 0
  have l0 : (w2.drewN n2).cell? ⟨w.heap.size + 1, 0, none⟩ = some (.int .i64 c) := (unhide HB1).2.cell 0
  have k2 : (w2.drewN n2).cell? ⟨w.heap.size, 2, none⟩ = some (.string nt) := (unhide HB1).1.cell 2
  have l2 : (w2.drewN n2).cell? ⟨w.heap.size + 1, 2, none⟩ = some (.string nt) := (unhide HB1).2.cell 2
  have hss : (nt.toList == nt.toList) = true := beq_self_eq_true _
  clear j1 j2 HT
  go_wp2_with fail
  go_ret
  exact ⟨rfl, ⟨(unhide HB).os, (unhide HB).tape, (unhide HB).output, (unhide HB).size, (unhide HB).block⟩⟩
def markS : ByteArray := ⟨#[109, 97, 114, 107]⟩
def MkT (W : World) (g cap : Nat) (l : List ByteArray) : Prop := W.ownsRow g 9 1 (.slice (some ⟨g, 0, none⟩) (l.length + 1) cap) (l.length + 1) ((l ++ [markS]).map Value.string)
theorem MkT.cap {W : World} {g cap : Nat} {l : List ByteArray} (h : MkT W g cap l) : l.length + 1 ≤ cap := by
  rcases h.2 with ⟨hv, -⟩ | ⟨g1, c1, cur, hv, -, -, hc, -⟩
  · cases hv
  · injection hv with _ h2 h3; omega
theorem MkT.strs {W : World} {g cap : Nat} {l : List ByteArray} (h : MkT W g cap l) (c : Nat) : StrsAt W (.slice (some ⟨g, 0, none⟩) l.length c) l := by
  refine ⟨_, c, rfl, fun j hj => ⟨_, rfl, ?_⟩⟩
  have hadd : (⟨g, 0, none⟩ : Addr).add j = ⟨g, j, none⟩ := by unfold Addr.add; split <;> simp_all
  rw [hadd, World.ownsRow.cellAt h j (by omega)]
  rw [List.getElem?_map, List.getElem?_append_left hj, List.getElem?_eq_getElem hj]; rfl
theorem MkT.mark {W : World} {g cap : Nat} {l : List ByteArray} (h : MkT W g cap l) : W.cell? ⟨g, l.length, none⟩ = some (.string markS) := by
  rw [World.ownsRow.cellAt h l.length (by omega)]; simp
theorem own_sliceT_ne {W : World} {base : Nat} {v : Value} {l : List ByteArray} (h : OwnT W base v l) (hl : l ≠ []) : ∃ g cap, v = .slice (some ⟨g, 0, none⟩) l.length cap ∧ base ≤ g ∧ OwnT W g v l ∧ l.length ≤ cap := by
  rcases h.2 with ⟨-, hn⟩ | ⟨g, cap, cur, rfl, hb, rest⟩
  · exact absurd (List.eq_nil_of_length_eq_zero hn) hl
  · exact ⟨g, cap, rfl, hb, ⟨h.1, .inr ⟨g, cap, cur, rfl, Nat.le_refl _, rest⟩⟩, rest.2.1⟩
end Go.Proofs.YtphjpdnheaeghaaDoor

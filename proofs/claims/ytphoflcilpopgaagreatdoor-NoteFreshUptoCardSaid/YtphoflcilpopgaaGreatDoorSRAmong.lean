/-
  CONTRACTS of the document's answer for note: among, line.
-/
import Derived.Test.YtphoflcilpopgaaGreatDoorRows
import Derived.Deep.QuietTactic
import Derived.BigQuiet
import Derived.Test.YtphoflcilpopgaaGreatDoorGBase
import Derived.Test.YtphoflcilpopgaaGreatDoorSRB64
import Derived.Test.YtphoflcilpopgaaGreatDoorGSigs
set_option linter.unusedVariables false
set_option linter.unusedSimpArgs false
namespace Go.Proofs.YtphoflcilpopgaaGreatDoor
open Go.RowKit Go.Lib
set_option maxRecDepth 100000 in
set_option maxHeartbeats 1000000 in
theorem ramong_any (v : Value) (xs : List SigR) (s : SigR) (base : Nat) (w : World) (hn : xs.length ≤ 1099511627776) (hO : OwnG w base v xs) :
    Calls Tryz.prog 33 #[v, sigV s] w fun e w' => e = .returned (.bool (amongV xs s)) ∧ Below w.heap.size w w' := by
  obtain ⟨A, c, rfl⟩ := hO.slice
  have hcell : ∀ j (hj : j < xs.length), ∃ g, A = some ⟨g, 0, none⟩ ∧ g < w.heap.size ∧ w.cell? ⟨g, j * 3, none⟩ = some (.string xs[j].nm) ∧ w.cell? ⟨g, j * 3 + 1, none⟩ = some (.string xs[j].id) := fun j hj => by
    rcases hO.form with ⟨_, he⟩ | ⟨g, cap, hv, h1, h2, h3⟩
    · rw [he] at hj; simp at hj
    · injection hv with e1 e2 e3
      subst e1 e3
      exact ⟨g, rfl, h2, hO.cell j 0 hj (by omega), hO.cell j 1 hj (by omega)⟩
  have HC := hide hcell; clear hcell hO
  obtain ⟨sn, si, sm⟩ := s
  unfold sigV
  go_enter Tryz.func33, Tryz.ntmps33
  go_wp2_with fail
  have hb0 : Below w.heap.size w (w.alloc (.cells #[.string sn, .string si, .string sm] 43)) := (Below.refl _ _).alloc (Nat.le_refl _) _
  have hB0 := Blk.new w 43 #[.string sn, .string si, .string sm]
  generalize (w.alloc (.cells #[.string sn, .string si, .string sm] 43)) = w0 at *
  have H0 := hide (And.intro hb0 hB0); clear hb0 hB0
  go_loopw [5] (fun i wr => ∃ k : Nat, k ≤ xs.length ∧ i = .int .i64 k ∧ Hid (∀ j (hj : j < xs.length), j < k → sameKey xs[j] ⟨sn, si, sm⟩ = false) ∧ Below w.heap.size w wr ∧ Blk wr w.heap.size 43 #[.string sn, .string si, .string sm]) (fun i _ => xs.length - (RowKit.intOf i).toNat)
  case atStart => exact ⟨0, by omega, rfl, Lib.hid (fun j _ h => by omega), (unhide H0).1, (unhide H0).2⟩
  case round =>
    clear H0
    obtain ⟨k, hk, rfl, hI, hb, hB⟩ := hrel
    rcases Nat.lt_or_ge k xs.length with hlt | hge
    · obtain ⟨g, rfl, hg, c0, c1⟩ := unhide HC k hlt
      have c0' := (hb.cell (p := ⟨g, k * 3, none⟩) hg).trans c0
      have c1' := (hb.cell (p := ⟨g, k * 3 + 1, none⟩) hg).trans c1
      have d0 := hB.cell 0; have d1 := hB.cell 1
      simp only [List.getElem?_toArray, List.getElem?_cons_zero, List.getElem?_cons_succ] at d0 d1
      have hk2 : (k : Int) < (xs.length : Int) := by omega
      have k0 : (0 : Int) ≤ (k : Int) := by omega
      have hno : Hid (sameKey xs[k] ⟨sn, si, sm⟩ = true → amongV xs ⟨sn, si, sm⟩ = true) := fun h => by
        unfold amongV
        rw [List.any_eq_true]
        exact ⟨_, List.getElem_mem hlt, h⟩
      have hst : Hid (sameKey xs[k] ⟨sn, si, sm⟩ = false → ∀ j (hj : j < xs.length), j < k + 1 → sameKey xs[j] ⟨sn, si, sm⟩ = false) := fun h j hj hjk => by
        rcases Nat.lt_succ_iff_lt_or_eq.1 hjk with h' | rfl
        · exact hI.out j hj h'
        · exact h
      have HX := hide (And.intro hb hB); clear hI hb hB c0 c1
      generalize xs[k] = x at *
      obtain ⟨xn, xi, xm⟩ := x
      by_cases h1 : xn = sn
      · have h1' : (xn.toList == sn.toList) = true := by rw [h1]; exact toList_same _
        by_cases h2 : xi = si
        · have h2' : (xi.toList == si.toList) = true := by rw [h2]; exact toList_same _
          have hr := Lib.hid (hno.out (by simp [sameKey, h1, h2]))
          clear hno hst h1 h2
          go_wp2_with fail
          go_quiet (fail)
          go_wp2_with fail
          go_ret
          exact ⟨by rw [hr.out]; rfl, below_drewN (unhide HX).1 _⟩
        · have h2' := toList_ne h2
          have hr := Lib.hid (hst.out (by simp [sameKey, h2]))
          clear hno hst h1 h2
          go_wp2_with fail
          go_quiet (fail)
          go_wp2_with fail
          go_roundw
          case rel => exact ⟨k + 1, by omega, by go_num, hr, below_drewN (unhide HX).1 _, (unhide HX).2.drewN _⟩
          case measure => simp [RowKit.intOf]; omega
      · have h1' := toList_ne h1
        have hr := Lib.hid (hst.out (by simp [sameKey, h1]))
        clear hno hst h1
        go_wp2_with fail
        go_quiet (fail)
        go_wp2_with fail
        go_roundw
        case rel => exact ⟨k + 1, by omega, by go_num, hr, below_drewN (unhide HX).1 _, (unhide HX).2.drewN _⟩
        case measure => simp [RowKit.intOf]; omega
    · have hk2 : ¬ (k : Int) < (xs.length : Int) := by omega
      have hr : Hid (amongV xs ⟨sn, si, sm⟩ = false) := by
        unfold amongV
        rw [Hid, List.any_eq_false]
        intro x hx
        obtain ⟨j, hj, rfl⟩ := List.mem_iff_getElem.1 hx
        rw [hI.out j hj (by omega)]
        simp
      have H1 := hide hb; clear hb
      go_wp2_with fail
      go_ret
      exact ⟨by rw [hr.out]; rfl, unhide H1⟩
/-- A signature's line. -/
def sigLine (x : SigR) : ByteArray := ⟨#[226, 128, 148, 32]⟩ ++ x.nm ++ ⟨#[32]⟩ ++ b64S (x.id ++ x.mc) ++ ⟨#[10]⟩
end Go.Proofs.YtphoflcilpopgaaGreatDoor

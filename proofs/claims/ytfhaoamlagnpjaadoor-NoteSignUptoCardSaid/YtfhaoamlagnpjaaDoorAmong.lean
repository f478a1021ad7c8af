/-
  CONTRACTS of package note: alike, among (slices.ContainsFunc); the document's among.
-/
import Derived.Test.YtfhaoamlagnpjaaDoorRows
import Derived.Test.YtfhaoamlagnpjaaDoorWd
import Derived.Test.YtfhaoamlagnpjaaDoorUnDec
import Derived.Test.YtfhaoamlagnpjaaDoorSigRow
import Derived.Deep.QuietTactic
import Derived.BigQuiet
set_option linter.unusedVariables false
set_option linter.unusedSimpArgs false
namespace Go.Proofs.YtfhaoamlagnpjaaDoor
open Go.RowKit Go.Lib
/-- Are two signatures of one key? -/
def sameKey (x y : SigR) : Bool := decide (x.nm = y.nm) && decide (x.id = y.id)
def amongV (xs : List SigR) (s : SigR) : Bool := xs.any fun x => sameKey x s
theorem toList_same (a : ByteArray) : (a.toList == a.toList) = true := beq_self_eq_true _
set_option maxRecDepth 100000 in
theorem sigAlike_any (x y : SigR) (w : World) :
    Calls Tryd.prog 89 #[sigV x, sigV y] w fun e w' => e = .returned (.bool (sameKey x y)) ∧ Below w.heap.size w w' := by
  obtain ⟨xn, xi, xm⟩ := x
  obtain ⟨yn, yi, ym⟩ := y
  unfold sigV
  have hb0 : Below w.heap.size w ((w.alloc (.cells #[.string xn, .string xi, .string xm] 71)).alloc (.cells #[.string yn, .string yi, .string ym] 71)) := ((Below.refl _ _).alloc (Nat.le_refl _) _).alloc (by simp) _
  have HB := hide hb0; clear hb0
  by_cases h1 : xn = yn
  · by_cases h2 : xi = yi
    · have hv : Hid (sameKey ⟨xn, xi, xm⟩ ⟨yn, yi, ym⟩ = true) := by simp [Hid, sameKey, h1, h2]
      subst h1 h2
      go_enter Tryd.func89, Tryd.ntmps89
      go_wp2_with fail
      go_ret
      exact ⟨by rw [hv.out]; rfl, unhide HB⟩
    · have hv : Hid (sameKey ⟨xn, xi, xm⟩ ⟨yn, yi, ym⟩ = false) := by simp [Hid, sameKey, h2]
      have h2' := toList_ne h2
      subst h1
      go_enter Tryd.func89, Tryd.ntmps89
      go_wp2_with fail
      go_ret
      exact ⟨by rw [hv.out, ← h2']; rfl, unhide HB⟩
  · have hv : Hid (sameKey ⟨xn, xi, xm⟩ ⟨yn, yi, ym⟩ = false) := by simp [Hid, sameKey, h1]
    have h1' := toList_ne h1
    go_enter Tryd.func89, Tryd.ntmps89
    go_wp2_with fail
    go_ret
    exact ⟨by rw [hv.out]; rfl, unhide HB⟩
set_option maxRecDepth 100000 in
theorem amongF_any (x s : SigR) (gs : Nat) (w : World) (hB : Blk w gs 71 s.cs.toArray) :
    Calls Tryd.prog 88 #[sigV x, .pointer (some ⟨gs, 0, none⟩)] w fun e w' => e = .returned (.bool (sameKey x s)) ∧ Below w.heap.size w w' := by
  have hB2 := hB.alloc (.cells #[.string x.nm, .string x.id, .string x.mc] 71)
  have c0 := hB2.cell 0; have c1 := hB2.cell 1; have c2 := hB2.cell 2
  simp only [SigR.cs, List.getElem?_toArray, List.getElem?_cons_zero, List.getElem?_cons_succ] at c0 c1 c2
  have hal := sigAlike_any x s (w.alloc (.cells #[.string x.nm, .string x.id, .string x.mc] 71))
  have HAL := hide hal; clear hal hB hB2
  unfold sigV at *
  go_enter Tryd.func88, Tryd.ntmps88
  go_wp2_with fail
  refine (unhide HAL).mono ?_
  rintro e w1 ⟨rfl, hb⟩
  have hb' : Below w.heap.size w w1 := ((Below.refl _ _).alloc (Nat.le_refl _) _).trans (hb.mono (by simp))
  have HB := hide hb'; clear hb hb'
  go_wp2_with fail
  go_ret
  exact ⟨rfl, unhide HB⟩
set_option maxRecDepth 100000 in
theorem index_any (v : Value) (xs : List SigR) (s : SigR) (base gs : Nat) (w : World) (hn : xs.length ≤ 1099511627776) (hO : OwnG w base v xs) (hB : Blk w gs 71 s.cs.toArray) :
    Calls Tryd.prog 108 #[v, .func (.func 88) #[] #[.pointer (some ⟨gs, 0, none⟩)]] w fun e w' => ∃ z : Int, e = .returned (.int .i64 z) ∧ decide (0 ≤ z) = amongV xs s ∧ Below w.heap.size w w' := by
  obtain ⟨A, c, rfl⟩ := hO.slice
  have hcell : ∀ j (hj : j < xs.length), ∃ g, A = some ⟨g, 0, none⟩ ∧ g < w.heap.size ∧ w.cell? ⟨g, j * 3, none⟩ = some (.string xs[j].nm) ∧ w.cell? ⟨g, j * 3 + 1, none⟩ = some (.string xs[j].id) ∧ w.cell? ⟨g, j * 3 + 2, none⟩ = some (.string xs[j].mc) := fun j hj => by
    rcases hO.form with ⟨_, he⟩ | ⟨g, cap, hv, h1, h2, h3⟩
    · rw [he] at hj; simp at hj
    · injection hv with e1 e2 e3
      subst e1 e3
      exact ⟨g, rfl, h2, hO.cell j 0 hj (by omega), hO.cell j 1 hj (by omega), hO.cell j 2 hj (by omega)⟩
  have HC := hide hcell; have HB := hide hB; clear hcell hB hO
  go_enter Tryd.func108, Tryd.ntmps108
  go_wp2_with fail
  go_loopw [8] (fun i wr => ∃ k : Nat, k ≤ xs.length ∧ i = .int .i64 k ∧ Hid (∀ j (hj : j < xs.length), j < k → sameKey xs[j] s = false) ∧ Below w.heap.size w wr) (fun i _ => xs.length - (RowKit.intOf i).toNat)
  case atStart => exact ⟨0, by omega, rfl, Lib.hid (fun j _ h => by omega), Below.refl _ _⟩
  case round =>
    obtain ⟨k, hk, rfl, hI, hb⟩ := hrel
    rcases Nat.lt_or_ge k xs.length with hlt | hge
    · obtain ⟨g, rfl, hg, c0, c1, c2⟩ := unhide HC k hlt
      have c0' := (hb.cell (p := ⟨g, k * 3, none⟩) hg).trans c0
      have c1' := (hb.cell (p := ⟨g, k * 3 + 1, none⟩) hg).trans c1
      have c2' := (hb.cell (p := ⟨g, k * 3 + 2, none⟩) hg).trans c2
      have hk2 : (k : Int) < (xs.length : Int) := by omega
      have HX := hide (And.intro hI hb); clear hI hb c0 c1 c2
      have hcall := amongF_any xs[k] s gs wr ((unhide HB).below (unhide HX).2 (unhide HB).lt)
      unfold sigV at hcall
      have hno : Hid (sameKey xs[k] s = true → amongV xs s = true) := fun h => by
        unfold amongV
        rw [List.any_eq_true]
        exact ⟨_, List.getElem_mem hlt, h⟩
      have hst : Hid (sameKey xs[k] s = false → ∀ j (hj : j < xs.length), j < k + 1 → sameKey xs[j] s = false) := fun h j hj hjk => by
        rcases Nat.lt_succ_iff_lt_or_eq.1 hjk with h' | rfl
        · exact (unhide HX).1.out j hj h'
        · exact h
      generalize xs[k] = x at *
      have HCL := hide hcall; clear hcall
      go_wp2_with fail
      refine (unhide HCL).mono ?_
      rintro e w1 ⟨rfl, hb1⟩
      have hb1' := (unhide HX).2.trans (hb1.mono (unhide HX).2.size)
      have H1 := hide hb1'; clear hb1 hb1'
      cases hsk : sameKey x s with
      | true =>
        have hr := Lib.hid (hno.out hsk)
        clear hsk
        go_wp2_with fail
        go_ret
        exact ⟨_, rfl, by rw [hr.out]; simp, unhide H1⟩
      | false =>
        have hr := Lib.hid (hst.out hsk)
        clear hsk
        go_wp2_with fail
        go_roundw
        case rel => exact ⟨k + 1, by omega, by go_num, hr, unhide H1⟩
        case measure => simp [RowKit.intOf]; omega
    · have hk2 : ¬ (k : Int) < (xs.length : Int) := by omega
      have hr : Hid (amongV xs s = false) := by
        unfold amongV
        rw [Hid, List.any_eq_false]
        intro x hx
        obtain ⟨j, hj, rfl⟩ := List.mem_iff_getElem.1 hx
        rw [hI.out j hj (by omega)]
        simp
      have H1 := hide hb; clear hb
      go_wp2_with fail
      go_ret
      exact ⟨_, rfl, by rw [hr.out]; rfl, unhide H1⟩
set_option maxRecDepth 100000 in
theorem among_any (v : Value) (xs : List SigR) (s : SigR) (base : Nat) (w : World) (hn : xs.length ≤ 1099511627776) (hO : OwnG w base v xs) :
    Calls Tryd.prog 60 #[v, sigV s] w fun e w' => e = .returned (.bool (amongV xs s)) ∧ Below w.heap.size w w' := by
  have hb0 : Below w.heap.size w (w.alloc (.cells #[.string s.nm, .string s.id, .string s.mc] 71)) := (Below.refl _ _).alloc (Nat.le_refl _) _
  have hix := index_any v xs s base w.heap.size (w.alloc (.cells #[.string s.nm, .string s.id, .string s.mc] 71)) hn (hO.alloc _) (Blk.new w _ _)
  obtain ⟨A, c, rfl⟩ := hO.slice
  have HIX := hide hix; have HB := hide hb0; clear hix hb0 hO
  have hcf : ∀ W, Hid (Calls Tryd.prog 108 #[.slice A xs.length c, .func (.func 88) #[] #[.pointer (some ⟨w.heap.size, 0, none⟩)]] W fun e w' => ∃ z : Int, e = .returned (.int .i64 z) ∧ decide (0 ≤ z) = amongV xs s ∧ Below W.heap.size W w') → Calls Tryd.prog 87 #[.slice A xs.length c, .func (.func 88) #[] #[.pointer (some ⟨w.heap.size, 0, none⟩)]] W fun e w' => e = .returned (.bool (amongV xs s)) ∧ Below W.heap.size W w' := fun W H => by
    clear HIX HB
    go_enter Tryd.func87, Tryd.ntmps87
    go_wp2_with fail
    refine (unhide H).mono ?_
    rintro e w1 ⟨z, rfl, hz, hb⟩
    have HZ := Lib.hid hz; have H1 := hide hb; clear hz hb
    go_wp2_with fail
    go_ret
    exact ⟨by rw [← HZ.out]; rfl, unhide H1⟩
  have HCF := hide (hcf _ HIX); clear hcf HIX
  unfold sigV
  go_enter Tryd.func60, Tryd.ntmps60
  go_wp2_with fail
  refine (unhide HCF).mono ?_
  rintro e w1 ⟨rfl, hb⟩
  have hb' := (unhide HB).trans (hb.mono (by simp))
  have H1 := hide hb'; clear hb hb'
  go_wp2_with fail
  go_ret
  exact ⟨rfl, unhide H1⟩
end Go.Proofs.YtfhaoamlagnpjaaDoor

/-
  Several texts in one: WORDS on signatures: as values, and rows of them that the call itself owns. | CONTRACTS of package note: alike, among (slices.ContainsFunc); the document's among. | CONTRACT of slices.Reverse at a row of signatures that the call itself owns.
-/
import Derived.Test.YtphoflcilpopgaaGreatDoorRows
import Derived.Laws.OwnMore
import Derived.Deep.QuietTactic
import Derived.BigQuiet
import Derived.RegionTactic
import Derived.BigRegion
import Derived.Test.YtphoflcilpopgaaGreatDoorGBase
import Derived.Test.YtphoflcilpopgaaGreatDoorGDecs
set_option linter.unusedVariables false
set_option linter.unusedSimpArgs false
namespace Go.Proofs.YtphoflcilpopgaaGreatDoor
open Go.RowKit Go.Lib
/-- A signature. -/
structure SigR where
  nm : ByteArray
  id : ByteArray
  mc : ByteArray
def SigR.cs (x : SigR) : List Value := [.string x.nm, .string x.id, .string x.mc]
def sigV (x : SigR) : Value := .agg #[.string x.nm, .string x.id, .string x.mc]
def sigCells (xs : List SigR) : List Value := xs.flatMap SigR.cs
theorem sigCells_length (xs : List SigR) : (sigCells xs).length = xs.length * 3 := by
  induction xs with
  | nil => rfl
  | cons x r ih =>
    unfold sigCells at ih ⊢
    rw [List.flatMap_cons, List.length_append, ih, List.length_cons]
    show 3 + _ = _
    omega
theorem sigCells_at (xs : List SigR) (j i : Nat) (hj : j < xs.length) (hi : i < 3) : (sigCells xs)[j * 3 + i]? = (xs[j].cs)[i]? := by
  induction xs generalizing j with
  | nil => simp at hj
  | cons x r ih =>
    unfold sigCells at ih ⊢
    rw [List.flatMap_cons]
    have hx : x.cs.length = 3 := rfl
    cases j with
    | zero =>
      rw [List.getElem?_append_left (by omega)]
      simp
    | succ j =>
      rw [List.getElem?_append_right (by omega), hx]
      have e : (j + 1) * 3 + i - 3 = j * 3 + i := by omega
      rw [e, ih j (by simpa using hj)]
      rfl
/-- A row of signatures that the call owns. -/
def OwnG (w : World) (base : Nat) (v : Value) (xs : List SigR) : Prop := w.ownsRow base 43 3 v xs.length (sigCells xs)
theorem OwnG.nil (w : World) (base : Nat) : OwnG w base (.slice none 0 0) [] := World.ownsRow_nil w base _ _
theorem OwnG.form {w : World} {base : Nat} {v : Value} {xs : List SigR} (h : OwnG w base v xs) : (v = .slice none 0 0 ∧ xs = []) ∨ ∃ g cap, v = .slice (some ⟨g, 0, none⟩) xs.length cap ∧ base ≤ g ∧ g < w.heap.size ∧ xs.length ≤ cap := by
  rcases h.2 with ⟨rfl, hn⟩ | ⟨g, cap, cur, rfl, hb, hg, hnc, _⟩
  · exact .inl ⟨rfl, List.eq_nil_of_length_eq_zero hn⟩
  · exact .inr ⟨g, cap, rfl, hb, (Array.getElem?_eq_some_iff.1 hg).1, hnc⟩
theorem OwnG.slice {w : World} {base : Nat} {v : Value} {xs : List SigR} (h : OwnG w base v xs) : ∃ A c, v = .slice A xs.length c := by
  rcases h.form with ⟨hv, he⟩ | ⟨g, cap, hv, -⟩
  · exact ⟨none, 0, by rw [hv, he]; rfl⟩
  · exact ⟨_, cap, hv⟩
theorem OwnG.below {w w' : World} {base : Nat} {v : Value} {xs : List SigR} (h : OwnG w base v xs) (hb : Below w.heap.size w w') : OwnG w' base v xs :=
  World.ownsRow.kept h (only_of_below hb none) (by cases hv : v.ownBlock <;> simp)
theorem OwnG.alloc {w : World} {base : Nat} {v : Value} {xs : List SigR} (h : OwnG w base v xs) (o : Obj) : OwnG (w.alloc o) base v xs := World.ownsRow.alloc h o
theorem OwnG.drew {w : World} {base : Nat} {v : Value} {xs : List SigR} (h : OwnG w base v xs) : OwnG w.drew base v xs := h
theorem OwnG.drewN {w : World} {base : Nat} {v : Value} {xs : List SigR} (h : OwnG w base v xs) (n : Nat) : OwnG (w.drewN n) base v xs := h
theorem OwnG.lt {w : World} {base : Nat} {v : Value} {xs : List SigR} (h : OwnG w base v xs) : ∀ k, v.ownBlock = some k → base ≤ k ∧ k < w.heap.size := World.ownsRow.lt h
theorem OwnG.mono {w : World} {base base' : Nat} {v : Value} {xs : List SigR} (h : OwnG w base v xs) (hb : base' ≤ base) : OwnG w base' v xs := by
  refine ⟨h.1, ?_⟩
  rcases h.2 with h2 | ⟨g, cap, cur, h1, h2, h3⟩
  · exact .inl h2
  · exact .inr ⟨g, cap, cur, h1, by omega, h3⟩
theorem OwnG.cell {w : World} {base g n cap : Nat} {xs : List SigR} (h : OwnG w base (.slice (some ⟨g, 0, none⟩) n cap) xs) (j i : Nat) (hj : j < xs.length) (hi : i < 3) : w.cell? ⟨g, j * 3 + i, none⟩ = (xs[j].cs)[i]? := by
  have hn : n = xs.length := by
    rcases h.form with ⟨hv, he⟩ | ⟨g', cap', hv, _⟩
    · cases hv
    · injection hv
  subst hn
  rw [World.ownsRow.cellAt h (j * 3 + i) (by omega)]
  exact sigCells_at xs j i hj hi
theorem sigInfo : (Tryz.prog.info? 43).map (fun i => (i.zero, i.size, i.bytes)) = some (some (.agg #[.string ⟨#[]⟩, .string ⟨#[]⟩, .string ⟨#[]⟩]), 3, 48) := by kernel_rfl
/-- append(v, x), x one signature in a new block of its own. -/
theorem wpList_appG1 {ops : Array Oper} {rest : List Oper} {o : Oper} {a : Act} {Q : Exit → Act → World → Prop} (w : World) (hgd : o.guard = none) (s x : Operand)
    (ho : o.op = .call { callee := .builtin .append, args := #[s, x], argTypes := #[23, 23] })
    {base : Nat} {v : Value} {xs : List SigR} (hown : OwnG w base v xs) (hs : a.eval s = v) {y : SigR} (hx : a.eval x = .slice (some ⟨w.heap.size, 0, none⟩) 1 1)
    (h47 : xs.length + 1 ≤ 1099511627776) (hbase : base ≤ w.heap.size)
    (h : ∀ v' w', OwnG w' base v' (xs ++ [y]) → (w.alloc (.cells #[.string y.nm, .string y.id, .string y.mc] 43)).grownBy w' v.ownBlock → (v'.ownBlock = v.ownBlock ∨ v'.ownBlock = some (w.heap.size + 1)) → wpList Tryz.prog ops Q rest (a.put o.dst v') w') :
    wpList Tryz.prog ops Q (o :: rest) a (w.alloc (.cells #[.string y.nm, .string y.id, .string y.mc] 43)) := by
  obtain ⟨i, hi, hz, hs1, hb1⟩ := info_parts sigInfo
  have hrd : Reads (w.alloc (.cells #[.string y.nm, .string y.id, .string y.mc] 43)) (w.heap.size + 1) 3 (some ⟨w.heap.size, 0, none⟩) 1 y.cs := by
    refine ⟨rfl, fun _ => ⟨_, rfl, Nat.lt_succ_self _, fun j u hu => ?_⟩⟩
    have hadd : (⟨w.heap.size, 0, none⟩ : Addr).add j = ⟨w.heap.size, j, none⟩ := by unfold Addr.add; split <;> simp_all
    rw [hadd, (Blk.new w 43 _).cell j, ← hu]
    simp [SigR.cs]
  refine wpList_append_any (w := w.alloc _) hgd s x 23 ho base 43 i _ 3 48 Tryz.underlying23 hi hz hs1 hb1 rfl (by decide) v xs.length (sigCells xs) hs (hown.alloc _) (w.heap.size + 1) _ 1 1 y.cs hx hrd ?_ ?_ ?_ (by simp; omega) ?_
  · intro u hu
    simp [SigR.cs] at hu
    rcases hu with rfl | rfl | rfl <;> rfl
  · simp only [maxLen]; omega
  · omega
  · intro v' w' h1 h2 h3
    refine h v' w' ?_ h2 (by simpa using h3)
    unfold OwnG
    rw [List.length_append]
    have e : sigCells (xs ++ [y]) = sigCells xs ++ y.cs := by unfold sigCells; rw [List.flatMap_append]; simp
    rw [e]
    exact h1
end Go.Proofs.YtphoflcilpopgaaGreatDoor

set_option linter.unusedVariables false
set_option linter.unusedSimpArgs false
namespace Go.Proofs.YtphoflcilpopgaaGreatDoor
open Go.RowKit Go.Lib
/-- Are two signatures of one key? -/
def sameKey (x y : SigR) : Bool := decide (x.nm = y.nm) && decide (x.id = y.id)
def amongV (xs : List SigR) (s : SigR) : Bool := xs.any fun x => sameKey x s
theorem toList_same (a : ByteArray) : (a.toList == a.toList) = true := beq_self_eq_true _
set_option maxRecDepth 100000 in
theorem sigAlike_any (x y : SigR) (w : World) :
    Calls Tryz.prog 75 #[sigV x, sigV y] w fun e w' => e = .returned (.bool (sameKey x y)) ∧ Below w.heap.size w w' := by
  obtain ⟨xn, xi, xm⟩ := x
  obtain ⟨yn, yi, ym⟩ := y
  unfold sigV
  have hb0 : Below w.heap.size w ((w.alloc (.cells #[.string xn, .string xi, .string xm] 43)).alloc (.cells #[.string yn, .string yi, .string ym] 43)) := ((Below.refl _ _).alloc (Nat.le_refl _) _).alloc (by simp) _
  have HB := hide hb0; clear hb0
  by_cases h1 : xn = yn
  · by_cases h2 : xi = yi
    · have hv : Hid (sameKey ⟨xn, xi, xm⟩ ⟨yn, yi, ym⟩ = true) := by simp [Hid, sameKey, h1, h2]
      subst h1 h2
      go_enter Tryz.func75, Tryz.ntmps75
      go_wp2_with fail
      go_ret
      exact ⟨by rw [hv.out]; rfl, unhide HB⟩
    · have hv : Hid (sameKey ⟨xn, xi, xm⟩ ⟨yn, yi, ym⟩ = false) := by simp [Hid, sameKey, h2]
      have h2' := toList_ne h2
      subst h1
      go_enter Tryz.func75, Tryz.ntmps75
      go_wp2_with fail
      go_ret
      exact ⟨by rw [hv.out, ← h2']; rfl, unhide HB⟩
  · have hv : Hid (sameKey ⟨xn, xi, xm⟩ ⟨yn, yi, ym⟩ = false) := by simp [Hid, sameKey, h1]
    have h1' := toList_ne h1
    go_enter Tryz.func75, Tryz.ntmps75
    go_wp2_with fail
    go_ret
    exact ⟨by rw [hv.out]; rfl, unhide HB⟩
set_option maxRecDepth 100000 in
theorem amongF_any (x s : SigR) (gs : Nat) (w : World) (hB : Blk w gs 43 s.cs.toArray) :
    Calls Tryz.prog 74 #[sigV x, .pointer (some ⟨gs, 0, none⟩)] w fun e w' => e = .returned (.bool (sameKey x s)) ∧ Below w.heap.size w w' := by
  have hB2 := hB.alloc (.cells #[.string x.nm, .string x.id, .string x.mc] 43)
  have c0 := hB2.cell 0; have c1 := hB2.cell 1; have c2 := hB2.cell 2
  simp only [SigR.cs, List.getElem?_toArray, List.getElem?_cons_zero, List.getElem?_cons_succ] at c0 c1 c2
  have hal := sigAlike_any x s (w.alloc (.cells #[.string x.nm, .string x.id, .string x.mc] 43))
  have HAL := hide hal; clear hal hB hB2
  unfold sigV at *
  go_enter Tryz.func74, Tryz.ntmps74
  go_wp2_with fail
  refine (unhide HAL).mono ?_
  rintro e w1 ⟨rfl, hb⟩
  have hb' : Below w.heap.size w w1 := ((Below.refl _ _).alloc (Nat.le_refl _) _).trans (hb.mono (by simp))
  have HB := hide hb'; clear hb hb'
  go_wp2_with fail
  go_ret
  exact ⟨rfl, unhide HB⟩
set_option maxRecDepth 100000 in
theorem index_any (v : Value) (xs : List SigR) (s : SigR) (base gs : Nat) (w : World) (hn : xs.length ≤ 1099511627776) (hO : OwnG w base v xs) (hB : Blk w gs 43 s.cs.toArray) :
    Calls Tryz.prog 88 #[v, .func (.func 74) #[] #[.pointer (some ⟨gs, 0, none⟩)]] w fun e w' => ∃ z : Int, e = .returned (.int .i64 z) ∧ decide (0 ≤ z) = amongV xs s ∧ Below w.heap.size w w' := by
  obtain ⟨A, c, rfl⟩ := hO.slice
  have hcell : ∀ j (hj : j < xs.length), ∃ g, A = some ⟨g, 0, none⟩ ∧ g < w.heap.size ∧ w.cell? ⟨g, j * 3, none⟩ = some (.string xs[j].nm) ∧ w.cell? ⟨g, j * 3 + 1, none⟩ = some (.string xs[j].id) ∧ w.cell? ⟨g, j * 3 + 2, none⟩ = some (.string xs[j].mc) := fun j hj => by
    rcases hO.form with ⟨_, he⟩ | ⟨g, cap, hv, h1, h2, h3⟩
    · rw [he] at hj; simp at hj
    · injection hv with e1 e2 e3
      subst e1 e3
      exact ⟨g, rfl, h2, hO.cell j 0 hj (by omega), hO.cell j 1 hj (by omega), hO.cell j 2 hj (by omega)⟩
  have HC := hide hcell; have HB := hide hB; clear hcell hB hO
  go_enter Tryz.func88, Tryz.ntmps88
  go_wp2_with fail
  go_loopw [8] (fun i wr => ∃ k : Nat, k ≤ xs.length ∧ i = .int .i64 k ∧ Hid (∀ j (hj : j < xs.length), j < k → sameKey xs[j] s = false) ∧ Below w.heap.size w wr) (fun i _ => xs.length - (RowKit.intOf i).toNat)
  case atStart => exact ⟨0, by omega, rfl, Lib.hid (fun j _ h => by omega), Below.refl _ _⟩
  case round =>
    obtain ⟨k, hk, rfl, hI, hb⟩ := hrel
    rcases Nat.lt_or_ge k xs.length with hlt | hge
    · obtain ⟨g, rfl, hg, c0, c1, c2⟩ := unhide HC k hlt
      have c0' := (hb.cell (p := ⟨g, k * 3, none⟩) hg).trans c0
      have c1' := (hb.cell (p := ⟨g, k * 3 + 1, none⟩) hg).trans c1
      have c2' := (hb.cell (p := ⟨g, k * 3 + 2, none⟩) hg).trans c2
      have hk2 : (k : Int) < (xs.length : Int) := by omega
      have HX := hide (And.intro hI hb); clear hI hb c0 c1 c2
      have hcall := amongF_any xs[k] s gs wr ((unhide HB).below (unhide HX).2 (unhide HB).lt)
      unfold sigV at hcall
      have hno : Hid (sameKey xs[k] s = true → amongV xs s = true) := fun h => by
        unfold amongV
        rw [List.any_eq_true]
        exact ⟨_, List.getElem_mem hlt, h⟩
      have hst : Hid (sameKey xs[k] s = false → ∀ j (hj : j < xs.length), j < k + 1 → sameKey xs[j] s = false) := fun h j hj hjk => by
        rcases Nat.lt_succ_iff_lt_or_eq.1 hjk with h' | rfl
        · exact (unhide HX).1.out j hj h'
        · exact h
      generalize xs[k] = x at *
      have HCL := hide hcall; clear hcall
      go_wp2_with fail
      refine (unhide HCL).mono ?_
      rintro e w1 ⟨rfl, hb1⟩
      have hb1' := (unhide HX).2.trans (hb1.mono (unhide HX).2.size)
      have H1 := hide hb1'; clear hb1 hb1'
      cases hsk : sameKey x s with
      | true =>
        have hr := Lib.hid (hno.out hsk)
        clear hsk
        go_wp2_with fail
        go_ret
        exact ⟨_, rfl, by rw [hr.out]; simp, unhide H1⟩
      | false =>
        have hr := Lib.hid (hst.out hsk)
        clear hsk
        go_wp2_with fail
        go_roundw
        case rel => exact ⟨k + 1, by omega, by go_num, hr, unhide H1⟩
        case measure => simp [RowKit.intOf]; omega
    · have hk2 : ¬ (k : Int) < (xs.length : Int) := by omega
      have hr : Hid (amongV xs s = false) := by
        unfold amongV
        rw [Hid, List.any_eq_false]
        intro x hx
        obtain ⟨j, hj, rfl⟩ := List.mem_iff_getElem.1 hx
        rw [hI.out j hj (by omega)]
        simp
      have H1 := hide hb; clear hb
      go_wp2_with fail
      go_ret
      exact ⟨_, rfl, by rw [hr.out]; rfl, unhide H1⟩
set_option maxRecDepth 100000 in
theorem among_any (v : Value) (xs : List SigR) (s : SigR) (base : Nat) (w : World) (hn : xs.length ≤ 1099511627776) (hO : OwnG w base v xs) :
    Calls Tryz.prog 46 #[v, sigV s] w fun e w' => e = .returned (.bool (amongV xs s)) ∧ Below w.heap.size w w' := by
  have hb0 : Below w.heap.size w (w.alloc (.cells #[.string s.nm, .string s.id, .string s.mc] 43)) := (Below.refl _ _).alloc (Nat.le_refl _) _
  have hix := index_any v xs s base w.heap.size (w.alloc (.cells #[.string s.nm, .string s.id, .string s.mc] 43)) hn (hO.alloc _) (Blk.new w _ _)
  obtain ⟨A, c, rfl⟩ := hO.slice
  have HIX := hide hix; have HB := hide hb0; clear hix hb0 hO
  have hcf : ∀ W, Hid (Calls Tryz.prog 88 #[.slice A xs.length c, .func (.func 74) #[] #[.pointer (some ⟨w.heap.size, 0, none⟩)]] W fun e w' => ∃ z : Int, e = .returned (.int .i64 z) ∧ decide (0 ≤ z) = amongV xs s ∧ Below W.heap.size W w') → Calls Tryz.prog 73 #[.slice A xs.length c, .func (.func 74) #[] #[.pointer (some ⟨w.heap.size, 0, none⟩)]] W fun e w' => e = .returned (.bool (amongV xs s)) ∧ Below W.heap.size W w' := fun W H => by
    clear HIX HB
    go_enter Tryz.func73, Tryz.ntmps73
    go_wp2_with fail
    refine (unhide H).mono ?_
    rintro e w1 ⟨z, rfl, hz, hb⟩
    have HZ := Lib.hid hz; have H1 := hide hb; clear hz hb
    go_wp2_with fail
    go_ret
    exact ⟨by rw [← HZ.out]; rfl, unhide H1⟩
  have HCF := hide (hcf _ HIX); clear hcf HIX
  unfold sigV
  go_enter Tryz.func46, Tryz.ntmps46
  go_wp2_with fail
  refine (unhide HCF).mono ?_
  rintro e w1 ⟨rfl, hb⟩
  have hb' := (unhide HB).trans (hb.mono (by simp))
  have H1 := hide hb'; clear hb hb'
  go_wp2_with fail
  go_ret
  exact ⟨rfl, unhide H1⟩
end Go.Proofs.YtphoflcilpopgaaGreatDoor

set_option linter.unusedVariables false
set_option linter.unusedSimpArgs false
namespace Go.Proofs.YtphoflcilpopgaaGreatDoor
open Go.RowKit Go.Lib
theorem sigCells_set : ∀ (xs : List SigR) (j : Nat) (y : SigR), (((sigCells xs).set (j * 3) (.string y.nm)).set (j * 3 + 1) (.string y.id)).set (j * 3 + 2) (.string y.mc) = sigCells (xs.set j y)
  | [], j, y => by simp [sigCells]
  | x :: r, 0, y => by
    unfold sigCells
    rw [List.flatMap_cons, List.set_cons_zero, List.flatMap_cons]
    rfl
  | x :: r, j + 1, y => by
    have ih := sigCells_set r j y
    unfold sigCells at ih ⊢
    rw [List.flatMap_cons, List.set_cons_succ, List.flatMap_cons, ← ih]
    have e0 : (j + 1) * 3 = j * 3 + 3 := by omega
    have e1 : (j + 1) * 3 + 1 = j * 3 + 1 + 3 := by omega
    have e2 : (j + 1) * 3 + 2 = j * 3 + 2 + 3 := by omega
    rw [e2, e1, e0]
    rfl
theorem OwnG.len {w : World} {base g n cap : Nat} {xs : List SigR} (h : OwnG w base (.slice (some ⟨g, 0, none⟩) n cap) xs) : n = xs.length := by
  rcases h.form with ⟨hv, he⟩ | ⟨g', cap', hv, _⟩
  · cases hv
  · injection hv
theorem OwnG.store {w : World} {base g n cap : Nat} {xs : List SigR} (h : OwnG w base (.slice (some ⟨g, 0, none⟩) n cap) xs) (j : Nat) (y : SigR) :
    OwnG (((w.setCell ⟨g, j * 3, none⟩ (.string y.nm)).setCell ⟨g, j * 3 + 1, none⟩ (.string y.id)).setCell ⟨g, j * 3 + 2, none⟩ (.string y.mc)) base (.slice (some ⟨g, 0, none⟩) n cap) (xs.set j y) ∧
    w.grownBy (((w.setCell ⟨g, j * 3, none⟩ (.string y.nm)).setCell ⟨g, j * 3 + 1, none⟩ (.string y.id)).setCell ⟨g, j * 3 + 2, none⟩ (.string y.mc)) (some g) := by
  obtain rfl := h.len
  have h1 := World.ownsRow.stored h (j * 3) (.string y.nm)
  have h2 := World.ownsRow.stored h1.1 (j * 3 + 1) (.string y.id)
  have h3 := World.ownsRow.stored h2.1 (j * 3 + 2) (.string y.mc)
  refine ⟨?_, (h1.2.trans h2.2).trans h3.2⟩
  unfold OwnG
  rw [List.length_set, ← sigCells_set]
  exact h3.1
theorem OwnG.frozen {w : World} {base g n cap : Nat} {xs : List SigR} (h : OwnG w base (.slice (some ⟨g, 0, none⟩) n cap) xs) (i : Nat) : w.frozen? ⟨g, i, none⟩ = false := by
  rcases h.2 with ⟨hv, _⟩ | ⟨g', cap', cur, hv, _, hh, _⟩
  · cases hv
  · injection hv with e _ _
    injection e with e
    injection e with e
    subst e
    simp [World.frozen?, hh]
/-- After k rounds. -/
def RevAt (xs ys : List SigR) (k : Nat) : Prop := ys.length = xs.length ∧ ∀ i (h : i < ys.length), ys[i]? = if i < k ∨ xs.length - k ≤ i then xs[xs.length - 1 - i]? else xs[i]?
theorem RevAt.start (xs : List SigR) : RevAt xs xs 0 := ⟨rfl, fun i h => by rw [if_neg (by omega)]⟩
theorem RevAt.done {xs ys : List SigR} {k : Nat} (h : RevAt xs ys k) (hk : xs.length ≤ 2 * k + 1) : ys = xs.reverse := by
  obtain ⟨h1, h2⟩ := h
  refine List.ext_getElem? fun i => ?_
  rcases Nat.lt_or_ge i xs.length with hi | hi
  · rw [h2 i (by omega), List.getElem?_reverse hi]
    split
    · rfl
    · congr 1; omega
  · rw [List.getElem?_eq_none (by omega), List.getElem?_eq_none (by simp; omega)]
theorem RevAt.step {xs ys : List SigR} {k m : Nat} (h : RevAt xs ys k) (hm : m = xs.length - 1 - k) (hk : k < m) (hl : m < ys.length) : RevAt xs ((ys.set k ys[m]).set m (ys[k]'(by omega))) (k + 1) := by
  obtain ⟨h1, h2⟩ := h
  have ek := h2 k (by omega)
  have em := h2 m (by omega)
  rw [if_neg (by omega), List.getElem?_eq_getElem (by omega)] at ek em
  refine ⟨by simp [h1], fun i hi => ?_⟩
  have hi' : i < ys.length := by simpa using hi
  by_cases c1 : i = m
  · subst c1
    rw [List.getElem?_set_self (by simp; omega), if_pos (by omega), ek]
    congr 1; omega
  · rw [List.getElem?_set_ne (by omega)]
    by_cases c2 : i = k
    · subst c2
      rw [List.getElem?_set_self (by omega), if_pos (by omega), em, hm]
    · rw [List.getElem?_set_ne (by omega), h2 i hi']
      by_cases c3 : i < k ∨ xs.length - k ≤ i
      · rw [if_pos c3, if_pos (by omega)]
      · rw [if_neg c3, if_neg (by omega)]
set_option maxRecDepth 100000 in
set_option maxHeartbeats 2000000 in
theorem reverse_any (v : Value) (xs : List SigR) (base : Nat) (w : World) (hn : xs.length ≤ 1099511627776) (hO : OwnG w base v xs) :
    Calls Tryz.prog 48 #[v] w fun e w' => (∃ u, e = .returned u) ∧ OwnG w' base v xs.reverse ∧ w.grownBy w' v.ownBlock := by
  rcases hO.form with ⟨rfl, rfl⟩ | ⟨g, cap, rfl, hb, hg, hc⟩
  · have HO := hide hO; clear hO
    go_enter Tryz.func48, Tryz.ntmps48
    go_wp2_with fail
    refine wp_loop_rounds 1 ?_; rw [rounds_succ]
    go_wp2_with fail
    go_end0
    exact ⟨⟨_, rfl⟩, unhide HO, World.grownBy.refl _ _⟩
  · have HO := hide hO; clear hO
    go_enter Tryz.func48, Tryz.ntmps48
    go_wp2_with fail
    go_loopw [2, 3] (fun i j wr => ∃ (k : Nat) (z : Int) (ys : List SigR), i = .int .i64 k ∧ j = .int .i64 z ∧ z = (xs.length : Int) - 1 - k ∧ k ≤ xs.length ∧ Hid (RevAt xs ys k) ∧ OwnG wr base (.slice (some ⟨g, 0, none⟩) xs.length cap) ys ∧ w.grownBy wr (some g)) (fun i j _ => (RowKit.intOf j - RowKit.intOf i + 1).toNat)
    case atStart => exact ⟨0, _, xs, rfl, rfl, by omega, by omega, Lib.hid (RevAt.start xs), unhide HO, World.grownBy.refl _ _⟩
    case round =>
      obtain ⟨k, z, ys, rfl, rfl, hz, hk, hR, hO, hgr⟩ := hrel
      by_cases hlt : (k : Int) < z
      · obtain ⟨m, hm⟩ : ∃ m : Nat, z = (m : Int) := ⟨z.toNat, by omega⟩
        subst hm
        have hyl := hO.len
        have hm2 : m < ys.length := by omega
        have hk2 : k < ys.length := by omega
        have hm3 : m < xs.length := by omega
        have hkm : k < m := by omega
        have hst := hR.out.step (m := m) (by omega) (by omega) hm2
        have a0 := hO.cell k 0 hk2 (by omega); have a1 := hO.cell k 1 hk2 (by omega); have a2 := hO.cell k 2 hk2 (by omega)
        have b0 := hO.cell m 0 hm2 (by omega); have b1 := hO.cell m 1 hm2 (by omega); have b2 := hO.cell m 2 hm2 (by omega)
        simp only [SigR.cs, List.getElem?_cons_zero, List.getElem?_cons_succ, Nat.add_zero] at a0 a1 a2 b0 b1 b2
        have hOs := ((hO.store k ys[m]).1.store m ys[k]).1
        have hgs := (hO.store k ys[m]).2.trans ((hO.store k ys[m]).1.store m ys[k]).2
        have hz1 : (m : Int) ≤ (xs.length : Int) - 1 - k := by omega
        have hz2 : (xs.length : Int) - 1 - k ≤ (m : Int) := by omega
        have fz := hO.frozen
        generalize ys[k] = x at *
        generalize ys[m] = y at *
        obtain ⟨xn, xi, xm⟩ := x
        obtain ⟨yn, yi, ym⟩ := y
        simp only at a0 a1 a2 b0 b1 b2 hOs hgs hst
        have ft := fz (k * 3); have fu := fz (k * 3 + 1); have fv := fz (k * 3 + 2); have fx := fz (m * 3); have fy := fz (m * 3 + 1); have fw := fz (m * 3 + 2)
        have HX := hide (And.intro hst (And.intro hOs (And.intro hgs hgr)))
        clear hst hOs hgs hgr hR hO fz hyl hz
        have i1 : (k : Int) < (xs.length : Int) := by omega
        have i2 : (m : Int) < (xs.length : Int) := by omega
        go_wp2_with fail
        go_region
        all_goals
          go_wp2_with fail
          go_roundw
          case rel => exact ⟨k + 1, (m : Int) - 1, _, by go_num, rfl, by omega, by omega, Lib.hid (unhide HX).1, (unhide HX).2.1.drew, only_drew ((unhide HX).2.2.2.trans (unhide HX).2.2.1)⟩
          case measure => simp [RowKit.intOf]; omega
      · have hd := hR.out.done (by omega)
        subst hd
        go_wp2_with fail
        go_end0
        exact ⟨⟨_, rfl⟩, hO, hgr⟩
end Go.Proofs.YtphoflcilpopgaaGreatDoor

/-
  Several texts in one: CONTRACTS of package text and of the document's answer for it: a number in decimal digits is read. | WORDS on signatures: as values, and rows of them that the call itself owns. | CONTRACTS of package note: alike, among (slices.ContainsFunc); the document's among. | CONTRACTS of package text and of the document's answer for it: base64 is written. | CONTRACTS of the document's answer for text: base64 is written. | CONTRACTS of the document's answer for note: among, line.
-/
import Derived.Test.YtfhaoamlagnpjaaDoorRows
import Derived.StillTailTactics
import Derived.Deep.RegionHeld3
import Derived.Laws.OwnMore
import Derived.Deep.QuietTactic
import Derived.BigQuiet
import Derived.Test.YtfhaoamlagnpjaaDoorGNoteAdd1
import Derived.Test.YtfhaoamlagnpjaaDoorGNoteAdd2
set_option linter.unusedVariables false
set_option linter.unusedSimpArgs false
namespace Go.Proofs.YtfhaoamlagnpjaaDoor
open Go.RowKit Go.Lib
theorem toList_ne {a b : ByteArray} (h : ¬ a = b) : (a.toList == b.toList) = false := by
  rw [beq_eq_false_iff_ne, ByteArray.toList_eq, ByteArray.toList_eq]
  exact fun e => h (bs_eq e)
theorem undF_enters : Enters Tryd.prog 82 := enters_of Tryd.func82 (by kernel_rfl) rfl
theorem und_form (n : Int) (c : UInt8) : wrap64 (wrap64 (wrap64 (10 * n) + (c.toNat : Int)) - 48) = undStep n c := by
  obtain ⟨k, hk⟩ := wrap64_mod (10 * n)
  obtain ⟨j, hj⟩ := wrap64_mod (wrap64 (10 * n) + (c.toNat : Int))
  unfold undStep
  exact wrap64_of _ _ (k + j) (by omega)
set_option maxRecDepth 100000 in
theorem undF_any (c : UInt8) (g : Nat) (n : Int) (w : World) (hB : Blk w g 3 #[.int .i64 n]) :
    Calls Tryd.prog 82 #[.int .u8 (c.toNat : Int), .pointer (some ⟨g, 0, none⟩)] w fun e w' => e = .returned (.bool true) ∧ w' = w.setCell ⟨g, 0, none⟩ (.int .i64 (undStep n c)) := by
  have c0 := hB.cell 0
  have f0 := hB.frozen 0
  simp only [List.getElem?_toArray, List.getElem?_cons_zero] at c0
  have hc := c.toNat_lt
  have hfm := Lib.hid (und_form n c)
  clear hB
  go_enter Tryd.func82, Tryd.ntmps82
  go_wp2
  go_ret
  exact ⟨rfl, by rw [← hfm.out]⟩
/-- The number's box behind each byte. -/
def undBox (w : World) (g : Nat) (s : ByteArray) (k : Nat) (wi : World) : Prop := Blk wi g 3 #[.int .i64 ((s.data.toList.take k).foldl undStep 0)] ∧ Below g w wi
theorem undEach_any (s : ByteArray) (g : Nat) (w w0 : World) (hs : s.size ≤ maxLen) (hB : Blk w g 3 #[.int .i64 0]) (hb : Below g w0 w) :
    Calls Tryd.prog 73 #[.string s, .func (.func 82) #[] #[.pointer (some ⟨g, 0, none⟩)]] w fun e w' => e = .returned (.bool true) ∧ Blk w' g 3 #[.int .i64 (s.data.toList.foldl undStep 0)] ∧ Below g w0 w' := by
  refine (each_inv 82 #[.pointer (some ⟨g, 0, none⟩)] s (fun k wi => undBox w0 g s k wi) (fun b w' => b = true ∧ undBox w0 g s s.size w') w hs undF_enters ⟨hB, hb⟩ ?_ ?_).mono ?_
  · rintro k wi hk ⟨hBi, hbi⟩
    refine (undF_any s[k] g _ wi hBi).mono ?_
    rintro e w1 ⟨rfl, rfl⟩
    refine ⟨true, rfl, fun _ => ⟨?_, hbi.setCell (Nat.le_refl _) _⟩, fun h => by cases h⟩
    have h := hBi.set_ 0 (.int .i64 (undStep ((s.data.toList.take k).foldl undStep 0) s[k]))
    have hkl : k < s.data.toList.length := by rw [Array.length_toList]; exact hk
    rw [List.take_succ_eq_append_getElem hkl, List.foldl_append]
    have he : s.data.toList[k] = s[k] := rfl
    rw [he]
    exact h
  · exact fun wi h => ⟨rfl, h⟩
  · rintro e w' ⟨b, rfl, rfl, h1, h2⟩
    rw [List.take_of_length_le (by rw [Array.length_toList]; exact Nat.le_refl _)] at h1
    exact ⟨rfl, h1, h2⟩
/-- What UnDec answers. -/
def undA (s : ByteArray) : Value := match undV s with
  | some z => .tuple #[.int .i64 z, .int .i64 0]
  | none => .tuple #[.int .i64 0, .int .i64 42]
theorem undA_some {s : ByteArray} {z : Int} (h : undV s = some z) : undA s = .tuple #[.int .i64 z, .int .i64 0] := by unfold undA; rw [h]
theorem undA_none {s : ByteArray} (h : undV s = none) : undA s = .tuple #[.int .i64 0, .int .i64 42] := by unfold undA; rw [h]
theorem undV_is (s : ByteArray) (z : Int) (h : undL s.data.toList = z) : undV s = if decS z = s then some z else none := by subst h; rfl
set_option maxRecDepth 100000 in
set_option maxHeartbeats 1000000 in
theorem undec_any (s : ByteArray) (w : World) (hs : s.size ≤ 1099511627776) :
    Calls Tryd.prog 52 #[.string s] w fun e w' => e = .returned (undA s) ∧ Below w.heap.size w w' := by
  by_cases h1 : s.size = 0 ∨ 20 < s.size
  · have hres : Hid (undA s = .tuple #[.int .i64 0, .int .i64 42]) := undA_none (undV_size h1)
    rcases h1 with h1 | h1
    · go_enter Tryd.func52, Tryd.ntmps52
      go_wp2_with fail
      all_goals go_ret2
      all_goals exact ⟨by rw [hres.out]; rfl, Below.refl _ _⟩
    · have h2 : ¬ ((s.size : Int) = 0) := by omega
      have h3 : (20 : Int) < (s.size : Int) := by omega
      go_enter Tryd.func52, Tryd.ntmps52
      go_wp2_with fail
      all_goals go_ret2
      all_goals exact ⟨by rw [hres.out]; rfl, Below.refl _ _⟩
  · have h2 : 0 < s.size := by omega
    have h3 : s.size ≤ 20 := by omega
    have h4 : ¬ ((s.size : Int) = 0) := by omega
    clear h1
    have h5 : ¬ (20 : Int) < (s.size : Int) := by omega
    have hix : (s[0]'h2).toNat < 256 := s[0].toNat_lt
    have hne : ¬ s = ByteArray.empty := fun e => by rw [e] at h2; exact absurd h2 (by decide)
    have hl0 : s.data.toList = s[0] :: (s.extract 1 s.size).data.toList := by
      rw [bytes_extract _ _ _ (Nat.le_refl _), List.take_of_length_le (by simp)]
      exact (List.drop_eq_getElem_cons (l := s.data.toList) (i := 0) (by rw [Array.length_toList]; exact h2)) ▸ (by simp [ByteArray.getElem_eq_getElem_data])
    have HL0 := Lib.hid hl0; clear hl0
    by_cases hm : s[0] = 45
    · have hmm : ((s[0].toNat : Int) == 45) = true := by rw [hm]; rfl
      have hx := fun W h1 h2 => undEach_any (s.extract 1 s.size) w.heap.size W w (by simp only [maxLen]; rw [ByteArray.size_extract]; omega) h1 h2
      have HX := hide hx; clear hx
      have hu : undL s.data.toList = wrap64 (-((s.extract 1 s.size).data.toList.foldl undStep 0)) := by rw [HL0.out, hm]; rfl
      have hlo := undL_lo s.data.toList
      obtain ⟨z, hz⟩ : ∃ z, Hid (undL s.data.toList = z) := ⟨_, Lib.hid rfl⟩
      obtain ⟨y, hy⟩ : ∃ y, Hid ((s.extract 1 s.size).data.toList.foldl undStep 0 = y) := ⟨_, Lib.hid rfl⟩
      rw [hz.out, hy.out] at hu
      rw [hz.out] at hlo
      rw [hy.out] at HX
      have hd := fun W => dec_any z W hlo.1 hlo.2
      have HD := hide hd; clear hd
      have HU := Lib.hid hu; have HLO := hide hlo; clear hu hlo
      go_enter Tryd.func52, Tryd.ntmps52
      go_wp2_with fail
      refine (unhide HX _ (Blk.new _ _ _) ((Below.refl _ _).alloc (Nat.le_refl _) _)).mono ?_
      rintro e w1 ⟨rfl, hB1, hb1⟩
      have c0 := hB1.cell 0
      have f0 := hB1.frozen 0
      simp only [List.getElem?_toArray, List.getElem?_cons_zero] at c0
      have H1 := hide (And.intro hB1 hb1); clear hB1 hb1
      go_wp2_with fail
      have hB2 : Blk (w1.setCell ⟨w.heap.size, 0, none⟩ (.int .i64 z)) w.heap.size 3 #[.int .i64 z] := (unhide H1).1.set_ 0 (.int .i64 z)
      have hb2 : Below w.heap.size w (w1.setCell ⟨w.heap.size, 0, none⟩ (.int .i64 z)) := (unhide H1).2.setCell (Nat.le_refl _) _
      rw [← HU.out]
      refine (unhide HD _).mono ?_
      rintro e w2 ⟨rfl, hb3⟩
      have hB3 := hB2.below hb3 hB2.lt
      have hb3' := hb2.trans (hb3.mono hb2.size)
      have k0 := hB3.cell 0
      simp only [List.getElem?_toArray, List.getElem?_cons_zero] at k0
      have H3 := hide hb3'; clear hB2 hb2 hB3 hb3 hb3' c0 f0 H1
      have huv := undV_is s z hz.out
      have HUV := Lib.hid huv; clear huv
      obtain ⟨D, HDe⟩ : ∃ D, Hid (decS z = D) := ⟨_, Lib.hid rfl⟩
      rw [HDe.out] at HUV ⊢
      by_cases he : D = s
      · have hres : Hid (undA s = .tuple #[.int .i64 z, .int .i64 0]) := undA_some (by rw [HUV.out, if_pos he])
        subst he
        go_wp2_with fail
        go_ret2
        exact ⟨by rw [hres.out]; rfl, unhide H3⟩
      · have hres : Hid (undA s = .tuple #[.int .i64 0, .int .i64 42]) := undA_none (by rw [HUV.out, if_neg he])
        have he' := toList_ne he
        go_wp2_with fail
        go_ret2
        exact ⟨by rw [hres.out]; rfl, unhide H3⟩
    · have hmm : ((s[0].toNat : Int) == 45) = false := by
        simp only [beq_eq_false_iff_ne]
        intro e
        exact hm (UInt8.toNat_inj.1 (by rw [show (45 : UInt8).toNat = 45 from rfl]; omega))
      have hx := fun W h1 h2 => undEach_any s w.heap.size W w (by simp only [maxLen]; omega) h1 h2
      have HX := hide hx; clear hx
      have hu : undL s.data.toList = s.data.toList.foldl undStep 0 := undL_pos _ (by rw [HL0.out, List.head?_cons]; exact fun e => hm (Option.some.inj e))
      have hlo := undL_lo s.data.toList
      obtain ⟨z, hz⟩ : ∃ z, Hid (undL s.data.toList = z) := ⟨_, Lib.hid rfl⟩
      rw [hz.out] at hu
      rw [hz.out] at hlo
      rw [← hu] at HX
      have hd := fun W => dec_any z W hlo.1 hlo.2
      have HD := hide hd; clear hd hu hlo
      go_enter Tryd.func52, Tryd.ntmps52
      go_wp2_with fail
      refine (unhide HX _ (Blk.new _ _ _) ((Below.refl _ _).alloc (Nat.le_refl _) _)).mono ?_
      rintro e w1 ⟨rfl, hB1, hb1⟩
      have c0 := hB1.cell 0
      simp only [List.getElem?_toArray, List.getElem?_cons_zero] at c0
      have H1 := hide (And.intro hB1 hb1); clear hB1 hb1
      go_wp2_with fail
      have hB2 := (unhide H1).1
      have hb2 := (unhide H1).2
      refine (unhide HD _).mono ?_
      rintro e w2 ⟨rfl, hb3⟩
      have hB3 := hB2.below hb3 hB2.lt
      have hb3' := hb2.trans (hb3.mono hb2.size)
      have k0 := hB3.cell 0
      simp only [List.getElem?_toArray, List.getElem?_cons_zero] at k0
      have H3 := hide hb3'; clear hB2 hb2 hB3 hb3 hb3' c0 H1
      have huv := undV_is s z hz.out
      have HUV := Lib.hid huv; clear huv
      obtain ⟨D, HDe⟩ : ∃ D, Hid (decS z = D) := ⟨_, Lib.hid rfl⟩
      rw [HDe.out] at HUV ⊢
      by_cases he : D = s
      · have hres : Hid (undA s = .tuple #[.int .i64 z, .int .i64 0]) := undA_some (by rw [HUV.out, if_pos he])
        subst he
        go_wp2_with fail
        go_ret2
        exact ⟨by rw [hres.out]; rfl, unhide H3⟩
      · have hres : Hid (undA s = .tuple #[.int .i64 0, .int .i64 42]) := undA_none (by rw [HUV.out, if_neg he])
        have he' := toList_ne he
        go_wp2_with fail
        go_ret2
        exact ⟨by rw [hres.out]; rfl, unhide H3⟩
end Go.Proofs.YtfhaoamlagnpjaaDoor

set_option linter.unusedVariables false
set_option linter.unusedSimpArgs false
namespace Go.Proofs.YtfhaoamlagnpjaaDoor
open Go.RowKit Go.Lib
/-- A signature. -/
structure SigR where
  nm : ByteArray
  id : ByteArray
  mc : ByteArray
def SigR.cs (x : SigR) : List Value := [.string x.nm, .string x.id, .string x.mc]
def sigV (x : SigR) : Value := .agg #[.string x.nm, .string x.id, .string x.mc]
def sigCells (xs : List SigR) : List Value := xs.flatMap SigR.cs
theorem sigCells_length (xs : List SigR) : (sigCells xs).length = xs.length * 3 := by
  induction xs with
  | nil => rfl
  | cons x r ih =>
    unfold sigCells at ih ⊢
    rw [List.flatMap_cons, List.length_append, ih, List.length_cons]
    show 3 + _ = _
    omega
theorem sigCells_at (xs : List SigR) (j i : Nat) (hj : j < xs.length) (hi : i < 3) : (sigCells xs)[j * 3 + i]? = (xs[j].cs)[i]? := by
  induction xs generalizing j with
  | nil => simp at hj
  | cons x r ih =>
    unfold sigCells at ih ⊢
    rw [List.flatMap_cons]
    have hx : x.cs.length = 3 := rfl
    cases j with
    | zero =>
      rw [List.getElem?_append_left (by omega)]
      simp
    | succ j =>
      rw [List.getElem?_append_right (by omega), hx]
      have e : (j + 1) * 3 + i - 3 = j * 3 + i := by omega
      rw [e, ih j (by simpa using hj)]
      rfl
/-- A row of signatures that the call owns. -/
def OwnG (w : World) (base : Nat) (v : Value) (xs : List SigR) : Prop := w.ownsRow base 71 3 v xs.length (sigCells xs)
theorem OwnG.nil (w : World) (base : Nat) : OwnG w base (.slice none 0 0) [] := World.ownsRow_nil w base _ _
theorem OwnG.form {w : World} {base : Nat} {v : Value} {xs : List SigR} (h : OwnG w base v xs) : (v = .slice none 0 0 ∧ xs = []) ∨ ∃ g cap, v = .slice (some ⟨g, 0, none⟩) xs.length cap ∧ base ≤ g ∧ g < w.heap.size ∧ xs.length ≤ cap := by
  rcases h.2 with ⟨rfl, hn⟩ | ⟨g, cap, cur, rfl, hb, hg, hnc, _⟩
  · exact .inl ⟨rfl, List.eq_nil_of_length_eq_zero hn⟩
  · exact .inr ⟨g, cap, rfl, hb, (Array.getElem?_eq_some_iff.1 hg).1, hnc⟩
theorem OwnG.slice {w : World} {base : Nat} {v : Value} {xs : List SigR} (h : OwnG w base v xs) : ∃ A c, v = .slice A xs.length c := by
  rcases h.form with ⟨hv, he⟩ | ⟨g, cap, hv, -⟩
  · exact ⟨none, 0, by rw [hv, he]; rfl⟩
  · exact ⟨_, cap, hv⟩
theorem OwnG.below {w w' : World} {base : Nat} {v : Value} {xs : List SigR} (h : OwnG w base v xs) (hb : Below w.heap.size w w') : OwnG w' base v xs :=
  World.ownsRow.kept h (only_of_below hb none) (by cases hv : v.ownBlock <;> simp)
theorem OwnG.alloc {w : World} {base : Nat} {v : Value} {xs : List SigR} (h : OwnG w base v xs) (o : Obj) : OwnG (w.alloc o) base v xs := World.ownsRow.alloc h o
theorem OwnG.drew {w : World} {base : Nat} {v : Value} {xs : List SigR} (h : OwnG w base v xs) : OwnG w.drew base v xs := h
theorem OwnG.drewN {w : World} {base : Nat} {v : Value} {xs : List SigR} (h : OwnG w base v xs) (n : Nat) : OwnG (w.drewN n) base v xs := h
theorem OwnG.lt {w : World} {base : Nat} {v : Value} {xs : List SigR} (h : OwnG w base v xs) : ∀ k, v.ownBlock = some k → base ≤ k ∧ k < w.heap.size := World.ownsRow.lt h
theorem OwnG.mono {w : World} {base base' : Nat} {v : Value} {xs : List SigR} (h : OwnG w base v xs) (hb : base' ≤ base) : OwnG w base' v xs := by
  refine ⟨h.1, ?_⟩
  rcases h.2 with h2 | ⟨g, cap, cur, h1, h2, h3⟩
  · exact .inl h2
  · exact .inr ⟨g, cap, cur, h1, by omega, h3⟩
theorem OwnG.cell {w : World} {base g n cap : Nat} {xs : List SigR} (h : OwnG w base (.slice (some ⟨g, 0, none⟩) n cap) xs) (j i : Nat) (hj : j < xs.length) (hi : i < 3) : w.cell? ⟨g, j * 3 + i, none⟩ = (xs[j].cs)[i]? := by
  have hn : n = xs.length := by
    rcases h.form with ⟨hv, he⟩ | ⟨g', cap', hv, _⟩
    · cases hv
    · injection hv
  subst hn
  rw [World.ownsRow.cellAt h (j * 3 + i) (by omega)]
  exact sigCells_at xs j i hj hi
theorem sigInfo : (Tryd.prog.info? 71).map (fun i => (i.zero, i.size, i.bytes)) = some (some (.agg #[.string ⟨#[]⟩, .string ⟨#[]⟩, .string ⟨#[]⟩]), 3, 48) := by kernel_rfl
/-- append(v, x), x one signature in a new block of its own. -/
theorem wpList_appG1 {ops : Array Oper} {rest : List Oper} {o : Oper} {a : Act} {Q : Exit → Act → World → Prop} (w : World) (hgd : o.guard = none) (s x : Operand)
    (ho : o.op = .call { callee := .builtin .append, args := #[s, x], argTypes := #[51, 51] })
    {base : Nat} {v : Value} {xs : List SigR} (hown : OwnG w base v xs) (hs : a.eval s = v) {y : SigR} (hx : a.eval x = .slice (some ⟨w.heap.size, 0, none⟩) 1 1)
    (h47 : xs.length + 1 ≤ 1099511627776) (hbase : base ≤ w.heap.size)
    (h : ∀ v' w', OwnG w' base v' (xs ++ [y]) → (w.alloc (.cells #[.string y.nm, .string y.id, .string y.mc] 71)).grownBy w' v.ownBlock → (v'.ownBlock = v.ownBlock ∨ v'.ownBlock = some (w.heap.size + 1)) → wpList Tryd.prog ops Q rest (a.put o.dst v') w') :
    wpList Tryd.prog ops Q (o :: rest) a (w.alloc (.cells #[.string y.nm, .string y.id, .string y.mc] 71)) := by
  obtain ⟨i, hi, hz, hs1, hb1⟩ := info_parts sigInfo
  have hrd : Reads (w.alloc (.cells #[.string y.nm, .string y.id, .string y.mc] 71)) (w.heap.size + 1) 3 (some ⟨w.heap.size, 0, none⟩) 1 y.cs := by
    refine ⟨rfl, fun _ => ⟨_, rfl, Nat.lt_succ_self _, fun j u hu => ?_⟩⟩
    have hadd : (⟨w.heap.size, 0, none⟩ : Addr).add j = ⟨w.heap.size, j, none⟩ := by unfold Addr.add; split <;> simp_all
    rw [hadd, (Blk.new w 71 _).cell j, ← hu]
    simp [SigR.cs]
  refine wpList_append_any (w := w.alloc _) hgd s x 51 ho base 71 i _ 3 48 Tryd.underlying51 hi hz hs1 hb1 rfl (by decide) v xs.length (sigCells xs) hs (hown.alloc _) (w.heap.size + 1) _ 1 1 y.cs hx hrd ?_ ?_ ?_ (by simp; omega) ?_
  · intro u hu
    simp [SigR.cs] at hu
    rcases hu with rfl | rfl | rfl <;> rfl
  · simp only [maxLen]; omega
  · omega
  · intro v' w' h1 h2 h3
    refine h v' w' ?_ h2 (by simpa using h3)
    unfold OwnG
    rw [List.length_append]
    have e : sigCells (xs ++ [y]) = sigCells xs ++ y.cs := by unfold sigCells; rw [List.flatMap_append]; simp
    rw [e]
    exact h1
end Go.Proofs.YtfhaoamlagnpjaaDoor

set_option linter.unusedVariables false
set_option linter.unusedSimpArgs false
namespace Go.Proofs.YtfhaoamlagnpjaaDoor
open Go.RowKit Go.Lib
/-- Are two signatures of one key? -/
def sameKey (x y : SigR) : Bool := decide (x.nm = y.nm) && decide (x.id = y.id)
def amongV (xs : List SigR) (s : SigR) : Bool := xs.any fun x => sameKey x s
theorem toList_same (a : ByteArray) : (a.toList == a.toList) = true := beq_self_eq_true _
set_option maxRecDepth 100000 in
theorem sigAlike_any (x y : SigR) (w : World) :
    Calls Tryd.prog 89 #[sigV x, sigV y] w fun e w' => e = .returned (.bool (sameKey x y)) ∧ Below w.heap.size w w' := by
  obtain ⟨xn, xi, xm⟩ := x
  obtain ⟨yn, yi, ym⟩ := y
  unfold sigV
  have hb0 : Below w.heap.size w ((w.alloc (.cells #[.string xn, .string xi, .string xm] 71)).alloc (.cells #[.string yn, .string yi, .string ym] 71)) := ((Below.refl _ _).alloc (Nat.le_refl _) _).alloc (by simp) _
  have HB := hide hb0; clear hb0
  by_cases h1 : xn = yn
  · by_cases h2 : xi = yi
    · have hv : Hid (sameKey ⟨xn, xi, xm⟩ ⟨yn, yi, ym⟩ = true) := by simp [Hid, sameKey, h1, h2]
      subst h1 h2
      go_enter Tryd.func89, Tryd.ntmps89
      go_wp2_with fail
      go_ret
      exact ⟨by rw [hv.out]; rfl, unhide HB⟩
    · have hv : Hid (sameKey ⟨xn, xi, xm⟩ ⟨yn, yi, ym⟩ = false) := by simp [Hid, sameKey, h2]
      have h2' := toList_ne h2
      subst h1
      go_enter Tryd.func89, Tryd.ntmps89
      go_wp2_with fail
      go_ret
      exact ⟨by rw [hv.out, ← h2']; rfl, unhide HB⟩
  · have hv : Hid (sameKey ⟨xn, xi, xm⟩ ⟨yn, yi, ym⟩ = false) := by simp [Hid, sameKey, h1]
    have h1' := toList_ne h1
    go_enter Tryd.func89, Tryd.ntmps89
    go_wp2_with fail
    go_ret
    exact ⟨by rw [hv.out]; rfl, unhide HB⟩
set_option maxRecDepth 100000 in
theorem amongF_any (x s : SigR) (gs : Nat) (w : World) (hB : Blk w gs 71 s.cs.toArray) :
    Calls Tryd.prog 88 #[sigV x, .pointer (some ⟨gs, 0, none⟩)] w fun e w' => e = .returned (.bool (sameKey x s)) ∧ Below w.heap.size w w' := by
  have hB2 := hB.alloc (.cells #[.string x.nm, .string x.id, .string x.mc] 71)
  have c0 := hB2.cell 0; have c1 := hB2.cell 1; have c2 := hB2.cell 2
  simp only [SigR.cs, List.getElem?_toArray, List.getElem?_cons_zero, List.getElem?_cons_succ] at c0 c1 c2
  have hal := sigAlike_any x s (w.alloc (.cells #[.string x.nm, .string x.id, .string x.mc] 71))
  have HAL := hide hal; clear hal hB hB2
  unfold sigV at *
  go_enter Tryd.func88, Tryd.ntmps88
  go_wp2_with fail
  refine (unhide HAL).mono ?_
  rintro e w1 ⟨rfl, hb⟩
  have hb' : Below w.heap.size w w1 := ((Below.refl _ _).alloc (Nat.le_refl _) _).trans (hb.mono (by simp))
  have HB := hide hb'; clear hb hb'
  go_wp2_with fail
  go_ret
  exact ⟨rfl, unhide HB⟩
set_option maxRecDepth 100000 in
theorem index_any (v : Value) (xs : List SigR) (s : SigR) (base gs : Nat) (w : World) (hn : xs.length ≤ 1099511627776) (hO : OwnG w base v xs) (hB : Blk w gs 71 s.cs.toArray) :
    Calls Tryd.prog 108 #[v, .func (.func 88) #[] #[.pointer (some ⟨gs, 0, none⟩)]] w fun e w' => ∃ z : Int, e = .returned (.int .i64 z) ∧ decide (0 ≤ z) = amongV xs s ∧ Below w.heap.size w w' := by
  obtain ⟨A, c, rfl⟩ := hO.slice
  have hcell : ∀ j (hj : j < xs.length), ∃ g, A = some ⟨g, 0, none⟩ ∧ g < w.heap.size ∧ w.cell? ⟨g, j * 3, none⟩ = some (.string xs[j].nm) ∧ w.cell? ⟨g, j * 3 + 1, none⟩ = some (.string xs[j].id) ∧ w.cell? ⟨g, j * 3 + 2, none⟩ = some (.string xs[j].mc) := fun j hj => by
    rcases hO.form with ⟨_, he⟩ | ⟨g, cap, hv, h1, h2, h3⟩
    · rw [he] at hj; simp at hj
    · injection hv with e1 e2 e3
      subst e1 e3
      exact ⟨g, rfl, h2, hO.cell j 0 hj (by omega), hO.cell j 1 hj (by omega), hO.cell j 2 hj (by omega)⟩
  have HC := hide hcell; have HB := hide hB; clear hcell hB hO
  go_enter Tryd.func108, Tryd.ntmps108
  go_wp2_with fail
  go_loopw [8] (fun i wr => ∃ k : Nat, k ≤ xs.length ∧ i = .int .i64 k ∧ Hid (∀ j (hj : j < xs.length), j < k → sameKey xs[j] s = false) ∧ Below w.heap.size w wr) (fun i _ => xs.length - (RowKit.intOf i).toNat)
  case atStart => exact ⟨0, by omega, rfl, Lib.hid (fun j _ h => by omega), Below.refl _ _⟩
  case round =>
    obtain ⟨k, hk, rfl, hI, hb⟩ := hrel
    rcases Nat.lt_or_ge k xs.length with hlt | hge
    · obtain ⟨g, rfl, hg, c0, c1, c2⟩ := unhide HC k hlt
      have c0' := (hb.cell (p := ⟨g, k * 3, none⟩) hg).trans c0
      have c1' := (hb.cell (p := ⟨g, k * 3 + 1, none⟩) hg).trans c1
      have c2' := (hb.cell (p := ⟨g, k * 3 + 2, none⟩) hg).trans c2
      have hk2 : (k : Int) < (xs.length : Int) := by omega
      have HX := hide (And.intro hI hb); clear hI hb c0 c1 c2
      have hcall := amongF_any xs[k] s gs wr ((unhide HB).below (unhide HX).2 (unhide HB).lt)
      unfold sigV at hcall
      have hno : Hid (sameKey xs[k] s = true → amongV xs s = true) := fun h => by
        unfold amongV
        rw [List.any_eq_true]
        exact ⟨_, List.getElem_mem hlt, h⟩
      have hst : Hid (sameKey xs[k] s = false → ∀ j (hj : j < xs.length), j < k + 1 → sameKey xs[j] s = false) := fun h j hj hjk => by
        rcases Nat.lt_succ_iff_lt_or_eq.1 hjk with h' | rfl
        · exact (unhide HX).1.out j hj h'
        · exact h
      generalize xs[k] = x at *
      have HCL := hide hcall; clear hcall
      go_wp2_with fail
      refine (unhide HCL).mono ?_
      rintro e w1 ⟨rfl, hb1⟩
      have hb1' := (unhide HX).2.trans (hb1.mono (unhide HX).2.size)
      have H1 := hide hb1'; clear hb1 hb1'
      cases hsk : sameKey x s with
      | true =>
        have hr := Lib.hid (hno.out hsk)
        clear hsk
        go_wp2_with fail
        go_ret
        exact ⟨_, rfl, by rw [hr.out]; simp, unhide H1⟩
      | false =>
        have hr := Lib.hid (hst.out hsk)
        clear hsk
        go_wp2_with fail
        go_roundw
        case rel => exact ⟨k + 1, by omega, by go_num, hr, unhide H1⟩
        case measure => simp [RowKit.intOf]; omega
    · have hk2 : ¬ (k : Int) < (xs.length : Int) := by omega
      have hr : Hid (amongV xs s = false) := by
        unfold amongV
        rw [Hid, List.any_eq_false]
        intro x hx
        obtain ⟨j, hj, rfl⟩ := List.mem_iff_getElem.1 hx
        rw [hI.out j hj (by omega)]
        simp
      have H1 := hide hb; clear hb
      go_wp2_with fail
      go_ret
      exact ⟨_, rfl, by rw [hr.out]; rfl, unhide H1⟩
set_option maxRecDepth 100000 in
theorem among_any (v : Value) (xs : List SigR) (s : SigR) (base : Nat) (w : World) (hn : xs.length ≤ 1099511627776) (hO : OwnG w base v xs) :
    Calls Tryd.prog 60 #[v, sigV s] w fun e w' => e = .returned (.bool (amongV xs s)) ∧ Below w.heap.size w w' := by
  have hb0 : Below w.heap.size w (w.alloc (.cells #[.string s.nm, .string s.id, .string s.mc] 71)) := (Below.refl _ _).alloc (Nat.le_refl _) _
  have hix := index_any v xs s base w.heap.size (w.alloc (.cells #[.string s.nm, .string s.id, .string s.mc] 71)) hn (hO.alloc _) (Blk.new w _ _)
  obtain ⟨A, c, rfl⟩ := hO.slice
  have HIX := hide hix; have HB := hide hb0; clear hix hb0 hO
  have hcf : ∀ W, Hid (Calls Tryd.prog 108 #[.slice A xs.length c, .func (.func 88) #[] #[.pointer (some ⟨w.heap.size, 0, none⟩)]] W fun e w' => ∃ z : Int, e = .returned (.int .i64 z) ∧ decide (0 ≤ z) = amongV xs s ∧ Below W.heap.size W w') → Calls Tryd.prog 87 #[.slice A xs.length c, .func (.func 88) #[] #[.pointer (some ⟨w.heap.size, 0, none⟩)]] W fun e w' => e = .returned (.bool (amongV xs s)) ∧ Below W.heap.size W w' := fun W H => by
    clear HIX HB
    go_enter Tryd.func87, Tryd.ntmps87
    go_wp2_with fail
    refine (unhide H).mono ?_
    rintro e w1 ⟨z, rfl, hz, hb⟩
    have HZ := Lib.hid hz; have H1 := hide hb; clear hz hb
    go_wp2_with fail
    go_ret
    exact ⟨by rw [← HZ.out]; rfl, unhide H1⟩
  have HCF := hide (hcf _ HIX); clear hcf HIX
  unfold sigV
  go_enter Tryd.func60, Tryd.ntmps60
  go_wp2_with fail
  refine (unhide HCF).mono ?_
  rintro e w1 ⟨rfl, hb⟩
  have hb' := (unhide HB).trans (hb.mono (by simp))
  have H1 := hide hb'; clear hb hb'
  go_wp2_with fail
  go_ret
  exact ⟨rfl, unhide H1⟩
end Go.Proofs.YtfhaoamlagnpjaaDoor

set_option linter.unusedVariables false
set_option linter.unusedSimpArgs false
namespace Go.Proofs.YtfhaoamlagnpjaaDoor
open Go.RowKit Go.Lib
/-- The sixty-four signs. -/
def signsS : ByteArray := ⟨#[65, 66, 67, 68, 69, 70, 71, 72, 73, 74, 75, 76, 77, 78, 79, 80, 81, 82, 83, 84, 85, 86, 87, 88, 89, 90, 97, 98, 99, 100, 101, 102, 103, 104, 105, 106, 107, 108, 109, 110, 111, 112, 113, 114, 115, 116, 117, 118, 119, 120, 121, 122, 48, 49, 50, 51, 52, 53, 54, 55, 56, 57, 43, 47]⟩
def sgn (v : Nat) : UInt8 := signsS.data.getD v 0
/-- Three bytes as a number, those that lack as 0. -/
def val3 (l : List UInt8) : Nat := (l.getD 0 0).toNat * 65536 + (l.getD 1 0).toNat * 256 + (l.getD 2 0).toNat
def put4 (v n : Nat) (i : Nat) : UInt8 := if n < i then 61 else sgn (v / 2 ^ (18 - 6 * i) % 64)
def four (l : List UInt8) : List UInt8 := (List.range 4).map (put4 (val3 l) (min 3 l.length))
def b64L (l : List UInt8) : List UInt8 :=
  match l with
  | [] => []
  | a :: r => four (a :: r) ++ b64L ((a :: r).drop 3)
termination_by l.length
decreasing_by simp; omega
theorem b64L_nil : b64L [] = [] := by rw [b64L]
theorem b64L_cons {l : List UInt8} (h : l ≠ []) : b64L l = four l ++ b64L (l.drop 3) := by
  cases l with
  | nil => exact absurd rfl h
  | cons a r => rw [b64L]
set_option maxRecDepth 100000 in
theorem b64L_length (l : List UInt8) : (b64L l).length = (l.length + 2) / 3 * 4 := by
  induction h : l.length using Nat.strongRecOn generalizing l with
  | _ n ih =>
    cases l with
    | nil => subst h; rw [b64L_nil]; rfl
    | cons a r =>
      rw [b64L_cons (by simp), List.length_append, ih _ (by simp at h ⊢; omega) ((a :: r).drop 3) rfl]
      have h4 : (four (a :: r)).length = 4 := by unfold four; rw [List.length_map, List.length_range]
      rw [h4, ← h]
      simp only [List.length_cons, List.length_drop]
      omega
def b64S (s : ByteArray) : ByteArray := ⟨(b64L s.data.toList).toArray⟩
theorem b64S_size (s : ByteArray) : (b64S s).size = (s.size + 2) / 3 * 4 := by
  have := b64L_length s.data.toList
  show (b64L s.data.toList).toArray.size = _
  rw [List.size_toArray, this]
  rfl
/-- make([]byte, 0, c). -/
theorem make_bytes (c : Nat) (hc : c ≤ 140737488355328) (w : World) : ∃ o, (Instr.makeSlice 75 (.int .i64 0) (.int .i64 (c : Int))).run Tryd.prog w = .ok (.slice (some ⟨w.heap.size, 0, none⟩) 0 c) (w.alloc o) ∧ ∀ base, base ≤ w.heap.size → OwnB (w.alloc o) base (.slice (some ⟨w.heap.size, 0, none⟩) 0 c) [] := by
  obtain ⟨i0, hi, hz0, hz1, hz2⟩ := info_parts byteInfo
  have h := run_make_rowN 75 5 i0 (.int .u8 0) Tryd.underlying75 hi hz0 .i64 .i64 0 c (by omega) (by rw [hz2]; omega) (by omega) w
  refine ⟨_, h, fun base hb => .inr ⟨w.heap.size, c, _, (0, 0), rfl, hb, heap_alloc_new w _, .inl rfl, by simp, by simp only [maxLen]; omega, ?_, by simp [byteCells]⟩⟩
  rw [hz1, Nat.mul_one]
  simp [madeCells]
theorem copy3 (x : ByteArray) (n : Nat) (hn : n = min x.size 3) : (List.take 0 [Value.int .u8 0, .int .u8 0, .int .u8 0] ++ byteCells (List.take n x.data.toList) ++ List.drop (0 + n) [Value.int .u8 0, .int .u8 0, .int .u8 0]) =
    [.int .u8 ((x.data.toList.getD 0 0).toNat : Int), .int .u8 ((x.data.toList.getD 1 0).toNat : Int), .int .u8 ((x.data.toList.getD 2 0).toNat : Int)] := by
  have hl : x.data.toList.length = x.size := by simp
  generalize x.data.toList = l at *
  match l, hl with
  | [], hl => simp at hl; subst hn; rw [← hl]; rfl
  | [a], hl => simp at hl; subst hn; rw [← hl]; rfl
  | [a, b], hl => simp at hl; subst hn; rw [← hl]; rfl
  | a :: b :: c :: r, hl =>
    have : n = 3 := by simp at hl; omega
    subst this
    rfl
set_option maxRecDepth 100000 in
theorem or3 (t0 t1 t2 : UInt8) : bits .or .i64 (bits .or .i64 ((t0.toNat : Int) * 65536) ((t1.toNat : Int) * 256)) (t2.toNat : Int) = ((t0.toNat * 65536 + t1.toNat * 256 + t2.toNat : Nat) : Int) := by
  have h0 := t0.toNat_lt
  have h1 := t1.toNat_lt
  have h2 := t2.toNat_lt
  have e1 : t0.toNat * 65536 ||| t1.toNat * 256 = t0.toNat * 65536 + t1.toNat * 256 := by
    have := Nat.shiftLeft_add_eq_or_of_lt (b := t1.toNat * 256) (i := 16) (by omega) t0.toNat
    rw [Nat.shiftLeft_eq] at this
    exact this.symm
  have e2 : (t0.toNat * 65536 + t1.toNat * 256) ||| t2.toNat = t0.toNat * 65536 + t1.toNat * 256 + t2.toNat := by
    have := Nat.shiftLeft_add_eq_or_of_lt (b := t2.toNat) (i := 8) (by omega) (t0.toNat * 256 + t1.toNat)
    rw [Nat.shiftLeft_eq] at this
    rw [show t0.toNat * 65536 + t1.toNat * 256 = (t0.toNat * 256 + t1.toNat) * 2 ^ 8 from by omega]
    exact this.symm
  have a := i64_or_nat (t0.toNat * 65536) (t1.toNat * 256) (by omega) (by omega)
  rw [e1] at a
  have b := i64_or_nat (t0.toNat * 65536 + t1.toNat * 256) t2.toNat (by omega) (by omega)
  rw [e2] at b
  rw [show ((t0.toNat : Int) * 65536) = ((t0.toNat * 65536 : Nat) : Int) from by omega, show ((t1.toNat : Int) * 256) = ((t1.toNat * 256 : Nat) : Int) from by omega, a, b]
/-- A sign out of a string, its index known to lie inside. -/
theorem wpList_index_str {ops : Array Oper} {rest : List Oper} {o : Oper} {a : Act} {Q : Exit → Act → World → Prop} {w : World} (hgd : o.guard = none) (x y : Operand) (ho : o.op = .index 9 x y)
    (s : ByteArray) (k : Nat) (z : Int) (hx : a.eval x = .string s) (hy : a.eval y = .int .i64 z) (hz : z = (k : Int)) (c : UInt8) (hk : s.data[k]? = some c)
    (h : wpList Tryd.prog ops Q rest (a.put o.dst (.int .u8 (c.toNat : Int))) w) : wpList Tryd.prog ops Q (o :: rest) a w := by
  refine wpList_plain hgd fun _ hK => ?_
  subst hz
  obtain ⟨hlt, hc⟩ := Array.getElem?_eq_some_iff.1 hk
  have hlt' : k < s.size := hlt
  have hr : (Instr.index 9 (.string s) (.int .i64 (k : Int))).run Tryd.prog w = .ok (.int .u8 (c.toNat : Int)) w := by
    rw [run_index_string w 9 s .i64 (k : Int) Tryd.underlying9, dif_pos (by omega)]
    have e : s[((k : Int)).toNat]'(by omega) = c := by
      simp only [Int.toNat_natCast]
      rw [ByteArray.getElem_eq_getElem_data]
      exact hc
    rw [e]
  unfold Oper.wp execOp
  simp only [ho, hx, hy, hr, Sem.run_bind, Sem.run_pure, Result.andThen_ok]
  exact hK _ _ h
theorem sgn_at (k : Nat) (h : k < 64) : signsS.data[k]? = some (sgn k) := by
  have hs : signsS.data.size = 64 := rfl
  rw [Array.getElem?_eq_getElem (by omega)]
  unfold sgn
  rw [Array.getD_eq_getD_getElem?, Array.getElem?_eq_getElem (by omega)]
  rfl
theorem and63 (v : Nat) (hv : v < 16777216) (m : Nat) : bits .and .i64 ((v : Int) / 2 ^ (18 - 6 * m)) 63 = ((v / 2 ^ (18 - 6 * m) % 64 : Nat) : Int) := by
  have hle : v / 2 ^ (18 - 6 * m) ≤ v := Nat.div_le_self _ _
  have h := i64_and_nat (v / 2 ^ (18 - 6 * m)) 63 (by omega) (by omega)
  rw [show (63 : Nat) = 2 ^ 6 - 1 from rfl, Nat.and_two_pow_sub_one_eq_mod] at h
  rw [show ((v / 2 ^ (18 - 6 * m) : Nat) : Int) = (v : Int) / 2 ^ (18 - 6 * m) from by simp] at h
  exact h
set_option maxRecDepth 100000 in
set_option maxHeartbeats 1000000 in
theorem b64_any (s : ByteArray) (w : World) (hs : s.size ≤ 35184372088832) :
    Calls Tryd.prog 44 #[.string s] w fun e w' => e = .returned (.string (b64S s)) ∧ Below w.heap.size w w' := by
  obtain ⟨o, hmk, hown⟩ := make_bytes ((s.size + 2) / 3 * 4) (by omega) w
  rw [show (((s.size + 2) / 3 * 4 : Nat) : Int) = ((s.size : Int) + 2) / 3 * 4 from by omega] at hmk
  have Hown := hide hown; clear hown
  go_enter Tryd.func44, Tryd.ntmps44
  go_wp2_with fail
  clear hmk
  go_loopw [0, 3] (fun a b wr => ∃ (x : ByteArray) (acc : List UInt8), a = .string x ∧ x.size ≤ s.size ∧ acc.length + (b64L x.data.toList).length ≤ 140737488355328 ∧ Hid (acc ++ b64L x.data.toList = b64L s.data.toList) ∧ OwnB wr w.heap.size b acc ∧ Below w.heap.size w wr) (fun a _ _ => strSize a)
  case atStart => exact ⟨s, [], rfl, Nat.le_refl _, by rw [b64L_length]; simp; omega, Lib.hid rfl, unhide Hown _ (Nat.le_refl _), (Below.refl _ _).alloc (Nat.le_refl _) _⟩
  case round =>
    clear Hown
    obtain ⟨x, acc, rfl, hxs, hal, hacc, hO, hb⟩ := hrel
    have Hx := hide (And.intro hacc (And.intro hO (And.intro hb hal))); clear hacc hO hb hal
    rcases Nat.eq_zero_or_pos x.size with h0 | h0
    · obtain ⟨hacc, hO, hb, hal⟩ := unhide Hx
      have hcv := conv_own hO
      have hxe : x.data.toList = [] := List.eq_nil_of_length_eq_zero (by rw [Array.length_toList]; exact h0)
      have hy := hide (And.intro hxe hb)
      clear hO hb hal hacc hxe
      go_wp2_with fail
      go_ret
      obtain ⟨hxe, hb⟩ := unhide hy
      have hacc := (unhide Hx).1.out
      rw [hxe, b64L_nil, List.append_nil] at hacc
      exact ⟨ret_str (by unfold b64S; rw [hacc]), hb⟩
    · obtain ⟨n, hn⟩ : ∃ n, n = min x.size 3 := ⟨_, rfl⟩
      have hnx : n ≤ x.size := by omega
      have hn3 : n ≤ 3 := by omega
      have hN := Lib.hid hn; clear hn
      have hor : ∀ t0 t1 t2 : UInt8, bits .or .i64 (bits .or .i64 ((t0.toNat : Int) * 65536) ((t1.toNat : Int) * 256)) (t2.toNat : Int) = ((t0.toNat * 65536 + t1.toNat * 256 + t2.toNat : Nat) : Int) := or3
      go_wp2_with (first | (refine wpList_copy_str _ rfl (.tmp 22) (.tmp 23) rfl (Blk.new _ _ _) 0 3 3 x rfl rfl n hN.out (by simp; omega) ?_; intro w1 hB1 hg1 hz1; have hB1' := hB1; rw [copy3 x n hN.out] at hB1'; have c0 := hB1'.cell 0; have c1 := hB1'.cell 1; have c2 := hB1'.cell 2; simp only [List.getElem?_toArray, List.getElem?_cons_zero, List.getElem?_cons_succ] at c0 c1 c2; generalize ht0 : x.data.toList.getD 0 0 = t0 at c0; generalize ht1 : x.data.toList.getD 1 0 = t1 at c1; generalize ht2 : x.data.toList.getD 2 0 = t2 at c2; have hb0 : (t0.toNat : Int) < 256 := by { have := t0.toNat_lt; omega }; have hb1 : (t1.toNat : Int) < 256 := by { have := t1.toNat_lt; omega }; have hb2 : (t2.toNat : Int) < 256 := by { have := t2.toNat_lt; omega }; have Ht := hide (And.intro ht0 (And.intro ht1 ht2)); clear ht0 ht1 ht2; have H1 := hide (And.intro hB1 (And.intro hg1 hz1)); clear hB1 hg1 hz1 hB1'))
      obtain ⟨v, hv⟩ : ∃ v : Nat, Hid (t0.toNat * 65536 + t1.toNat * 256 + t2.toNat = v) := ⟨_, Lib.hid rfl⟩
      have hvv : ((t0.toNat : Int) * 65536 + (t1.toNat : Int) * 256 + (t2.toNat : Int)) = (v : Int) := by rw [← hv.out]; omega
      have hv24 : (v : Int) < 16777216 := by omega
      rw [hvv]
      clear hor hvv c0 c1 c2
      have hacl : acc.length + 4 ≤ 140737488355328 := by
        have h := (unhide Hx).2.2.2
        rw [b64L_length] at h
        simp at h
        omega
      have hand := and63 v (by omega)
      go_loopw [3, 7] (fun b i wz => ∃ m : Nat, m ≤ 4 ∧ i = .int .i64 m ∧ OwnB wz w.heap.size b (acc ++ (List.range m).map (put4 v n)) ∧ Below w.heap.size w wz) (fun _ i _ => 4 - (intOf i).toNat)
      case atStart =>
        obtain ⟨hacc, hO, hb, hal⟩ := unhide Hx
        have hne : u3.ownBlock ≠ some wr.heap.size := fun e => by
          have := (hO.lt _ e).2
          omega
        refine ⟨0, by omega, rfl, ?_, (hb.alloc hb.size _).grown (unhide H1).2.1 (by have := hb.size; simp; omega) (fun k hk => by cases hk; exact hb.size)⟩
        rw [show (List.range 0).map (put4 v n) = [] from rfl, List.append_nil]
        refine (hO.alloc _).kept (unhide H1).2.1 ?_
        cases h : u3.ownBlock with
        | none => exact .inl rfl
        | some k => exact .inr (by rw [← h]; exact hne)
      case round =>
        obtain ⟨m, hm, rfl, hO, hb⟩ := hrel
        have Hy := hide (And.intro hO hb); clear hO hb
        rcases Nat.lt_or_ge m 4 with hm4 | hm4
        · have hlen : (acc ++ (List.range m).map (put4 v n)).length + 1 ≤ 140737488355328 := by simp; omega
          rcases Nat.lt_or_ge n m with hnm | hnm
          · clear hand hb0 hb1 hb2 hv24
            go_wp2_with (first | (at_builtin; refine wpList_app1 wr rfl (.tmp 45) (.tmp 46) rfl (unhide Hy).1 rfl rfl (by omega) (by omega) hlen (unhide Hy).2.size ?_; intro v' w' hO' hg hat; have HO' := hide (And.intro hO' (And.intro hg hat)); clear hO' hg hat))
            go_roundw
            case rel =>
              obtain ⟨hO', hg, hat⟩ := unhide HO'
              obtain ⟨hO, hb⟩ := unhide Hy
              refine ⟨m + 1, by omega, by go_num, ?_, (hb.alloc hb.size _).grown hg (by have := hb.size; simp; omega) (fun k hk => (hO.lt k hk).1)⟩
              rw [List.range_succ, List.map_append, ← List.append_assoc]
              have e : put4 v n m = 61 := by unfold put4; rw [if_pos hnm]
              rw [List.map_cons, List.map_nil, e]
              exact hO'
            case measure => simp [intOf]; omega
          · have h18 : (0 : Int) ≤ 18 - 6 * (m : Int) := by omega
            have hand' := hand m
            rw [Int.natCast_emod, Int.natCast_ediv, Int.natCast_pow] at hand'
            have hlt64 : v / 2 ^ (18 - 6 * m) % 64 < 64 := Nat.mod_lt _ (by omega)
            have hq : Hid (put4 v n m = sgn (v / 2 ^ (18 - 6 * m) % 64)) := by unfold put4; rw [Hid, if_neg (by omega)]
            have hk := sgn_at _ hlt64
            generalize sgn (v / 2 ^ (18 - 6 * m) % 64) = c at hk hq
            have hcl := c.toNat_lt
            have hk' := hide hk
            clear hand hb0 hb1 hb2 hk hlt64 hv24 h18
            have Hcl := hide hcl
            clear hcl
            go_wp2_with (first | (refine wpList_index_str rfl _ (.tmp 54) rfl signsS (v / 2 ^ (18 - 6 * m) % 64) _ rfl rfl (by simp) c (unhide hk') ?_) | (at_builtin; refine wpList_app1 wr rfl (.tmp 48) (.tmp 56) rfl (unhide Hy).1 rfl rfl (Int.natCast_nonneg _) (by have := unhide Hcl; omega) hlen (unhide Hy).2.size ?_; intro v' w' hO' hg hat; have HO' := hide (And.intro hO' (And.intro hg hat)); clear hO' hg hat))
            go_roundw
            case rel =>
              obtain ⟨hO', hg, hat⟩ := unhide HO'
              obtain ⟨hO, hb⟩ := unhide Hy
              refine ⟨m + 1, by omega, by go_num, ?_, (hb.alloc hb.size _).grown hg (by have := hb.size; simp; omega) (fun k hk => (hO.lt k hk).1)⟩
              rw [List.range_succ, List.map_append, ← List.append_assoc]
              rw [List.map_cons, List.map_nil, hq.out]
              simpa using hO'
            case measure => simp [intOf]; omega
        · have hm4' : m = 4 := by omega
          have Hm := Lib.hid hm4'
          clear hm4' hand hb0 hb1 hb2 hv24
          go_wp2_with fail
          obtain ⟨hO, hb⟩ := unhide Hy
          obtain ⟨hacc, -, -, hal⟩ := unhide Hx
          have hN' := hN.out
          have en : (if ((x.size : Nat) : Int) < 3 then ((x.size : Nat) : Int) else 3).toNat = n := by split <;> omega
          have hll : x.data.toList.length = x.size := Array.length_toList
          have hxl : (x.extract n x.size).data.toList = x.data.toList.drop 3 := by
            rw [bytes_extract _ _ _ (Nat.le_refl _), List.take_of_length_le (by simp)]
            rcases Nat.lt_or_ge x.size 3 with h3 | h3
            · rw [List.drop_eq_nil_of_le (by omega), List.drop_eq_nil_of_le (by omega)]
            · rw [show n = 3 from by omega]
          have hne : x.data.toList ≠ [] := fun e => by rw [e] at hll; simp at hll; omega
          have hf : four x.data.toList = (List.range 4).map (put4 v n) := by
            obtain ⟨e0, e1, e2⟩ := unhide Ht
            unfold four val3
            rw [e0, e1, e2, hv.out, hll, Nat.min_comm, ← hN']
          have hbl : b64L x.data.toList = (List.range 4).map (put4 v n) ++ b64L (x.data.toList.drop 3) := by rw [b64L_cons hne, hf]
          rw [hbl, List.length_append] at hal
          rw [en, Hm.out] at *
          refine ⟨⟨x.extract n x.size, acc ++ (List.range 4).map (put4 v n), rfl, by simp; omega, ?_, ?_, hO, hb⟩, ?_⟩
          · rw [hxl, List.length_append]; omega
          · rw [Hid, hxl, List.append_assoc, ← hbl]; exact hacc.out
          · simp [strSize]; omega
end Go.Proofs.YtfhaoamlagnpjaaDoor

set_option linter.unusedVariables false
set_option linter.unusedSimpArgs false
namespace Go.Proofs.YtfhaoamlagnpjaaDoor
open Go.RowKit Go.Lib
set_option maxRecDepth 100000 in
theorem byteAt_any (s : ByteArray) (i : Nat) (w : World) (hs : s.size ≤ 35184372088832) (hi : i ≤ 35184372088840) :
    Calls Tryd.prog 80 #[.string s, .int .i64 (i : Int)] w fun e w' => e = .returned (.int .i64 ((s.data.toList.getD i 0).toNat : Int)) ∧ w = w' := by
  have hll : s.data.toList.length = s.size := Array.length_toList
  rcases Nat.lt_or_ge i s.size with h | h
  · have hlt := s[i].toNat_lt
    have hb : (s[i].toNat : Int) < 256 := by omega
    have he : Hid (s.data.toList.getD i 0 = s[i]) := by
      unfold Hid
      rw [List.getD_eq_getElem?_getD, List.getElem?_eq_getElem (by omega)]
      simp [ByteArray.getElem_eq_getElem_data]
    clear hlt
    go_enter Tryd.func80, Tryd.ntmps80
    go_wp2
    go_ret
    exact ⟨by rw [he.out]; rfl, rfl⟩
  · have he : Hid (s.data.toList.getD i 0 = 0) := by
      unfold Hid
      rw [List.getD_eq_getElem?_getD, List.getElem?_eq_none (by omega)]
      rfl
    go_enter Tryd.func80, Tryd.ntmps80
    go_wp2
    go_ret
    exact ⟨by rw [he.out]; rfl, rfl⟩
theorem signs_one (v : Nat) (h : v < 64) : signsS.extract v (v + 1) = ⟨#[sgn v]⟩ := by
  apply bs_eq
  have hs : signsS.data.size = 64 := rfl
  rw [bytes_extract _ _ _ (by show v + 1 ≤ 64; omega), show v + 1 - v = 1 from by omega]
  have hk := sgn_at v h
  have hd : signsS.data.toList.drop v = sgn v :: signsS.data.toList.drop (v + 1) := by
    rw [List.drop_eq_getElem_cons (by rw [Array.length_toList]; omega)]
    congr 1
    have := (Array.getElem?_eq_some_iff.1 hk).2
    simpa using this
  rw [hd]
  rfl
theorem sign64 (v : Nat) (w : World) (h : v < 64) :
    Calls Tryd.prog 79 #[.string signsS, .int .i64 (v : Int)] w fun e w' => e = .returned (.string ⟨#[sgn v]⟩) ∧ w = w' := by
  refine (sign_any signsS v w (by show v < 64; omega) (by decide)).mono ?_
  rintro e w' ⟨rfl, rfl⟩
  exact ⟨ret_str (signs_one v h), rfl⟩
theorem sign64z (z : Int) (k : Nat) (w : World) (hz : z = (k : Int)) (h : k < 64) :
    Calls Tryd.prog 79 #[.string signsS, .int .i64 z] w fun e w' => e = .returned (.string ⟨#[sgn k]⟩) ∧ w = w' := by
  subst hz
  exact sign64 k w h
set_option maxRecDepth 100000 in
set_option maxHeartbeats 1000000 in
theorem rb64_any (s : ByteArray) (w : World) (hs : s.size ≤ 35184372088832) :
    Calls Tryd.prog 48 #[.string s] w fun e w' => e = .returned (.string (b64S s)) ∧ w = w' := by
  have hB := fun i w (h : i ≤ 35184372088840) => byteAt_any s i w hs h
  have HB := hide hB; clear hB
  go_enter Tryd.func48, Tryd.ntmps48
  go_wp2_with fail
  go_loopw [3, 4] (fun a i wr => ∃ (q : Nat) (acc : ByteArray), a = .string acc ∧ i = .int .i64 (q : Nat) ∧ q ≤ s.size + 2 ∧ acc.size + (b64L (s.data.toList.drop q)).length ≤ 140737488355328 ∧ Hid (acc.data.toList ++ b64L (s.data.toList.drop q) = b64L s.data.toList) ∧ Hid (w = wr)) (fun _ i _ => s.size + 3 - (intOf i).toNat)
  case atStart => exact ⟨0, ⟨#[]⟩, rfl, rfl, by omega, by rw [b64L_length, List.drop_zero, Array.length_toList]; show 0 + (s.size + 2) / 3 * 4 ≤ _; omega, Lib.hid rfl, Lib.hid rfl⟩
  case round =>
    obtain ⟨q, acc, rfl, rfl, hq, hal, hacc, hw⟩ := hrel
    obtain rfl := hw.out
    have Hal := hide hal; clear hal
    rcases Nat.lt_or_ge q s.size with hlt | hge
    · have e0 := unhide HB q w (by omega)
      have e1 := unhide HB (q + 1) w (by omega)
      have e2 := unhide HB (q + 2) w (by omega)
      rw [Int.natCast_add] at e1 e2
      generalize ht0 : s.data.toList.getD q 0 = t0 at e0
      generalize ht1 : s.data.toList.getD (q + 1) 0 = t1 at e1
      generalize ht2 : s.data.toList.getD (q + 2) 0 = t2 at e2
      have E0 := hide e0
      have E1 := hide e1
      have E2 := hide e2
      have hb0 : (t0.toNat : Int) < 256 := by have := t0.toNat_lt; omega
      have hb1 : (t1.toNat : Int) < 256 := by have := t1.toNat_lt; omega
      have hb2 : (t2.toNat : Int) < 256 := by have := t2.toNat_lt; omega
      have Ht := hide (And.intro ht0 (And.intro ht1 ht2)); clear ht0 ht1 ht2 e0 e1 e2
      go_wp2_with fail
      refine (unhide E0).mono ?_
      rintro e w1 ⟨rfl, rfl⟩
      go_wp2_with fail
      refine (unhide E1).mono ?_
      rintro e w1 ⟨rfl, rfl⟩
      go_wp2_with fail
      refine (unhide E2).mono ?_
      rintro e w1 ⟨rfl, rfl⟩
      go_wp2_with fail
      obtain ⟨v, hv⟩ : ∃ v : Nat, Hid (t0.toNat * 65536 + t1.toNat * 256 + t2.toNat = v) := ⟨_, Lib.hid rfl⟩
      have hvv : ((t0.toNat : Int) * 65536 + (t1.toNat : Int) * 256 + (t2.toNat : Int)) = (v : Int) := by rw [← hv.out]; omega
      have hv24 : (v : Int) < 16777216 := by omega
      rw [hvv]
      clear hvv E0 E1 E2
      have s0 := sign64z ((v : Int) / 262144) (v / 262144 % 64) w (by omega) (by omega)
      have s1 := sign64z ((v : Int) / 4096 % 64) (v / 4096 % 64) w (by omega) (by omega)
      have s2 := sign64z ((v : Int) / 64 % 64) (v / 64 % 64) w (by omega) (by omega)
      have s3 := sign64z ((v : Int) % 64) (v % 64) w (by omega) (by omega)
      have hp : Hid (∀ n, (List.range 4).map (put4 v n) = [put4 v n 0, put4 v n 1, put4 v n 2, put4 v n 3]) := fun n => rfl
      have q0 : Hid (put4 v 3 0 = sgn (v / 262144 % 64) ∧ ∀ n, put4 v n 0 = sgn (v / 262144 % 64)) := ⟨rfl, fun n => rfl⟩
      have q1 : Hid (∀ n, 1 ≤ n → put4 v n 1 = sgn (v / 4096 % 64)) := fun n h => by unfold put4; rw [if_neg (by omega)]
      have q2 : Hid (∀ n, 2 ≤ n → put4 v n 2 = sgn (v / 64 % 64)) := fun n h => by unfold put4; rw [if_neg (by omega)]
      have q3 : Hid (∀ n, 3 ≤ n → put4 v n 3 = sgn (v % 64)) := fun n h => by unfold put4; rw [if_neg (by omega)]; simp
      generalize sgn (v / 262144 % 64) = g0 at s0 q0
      generalize sgn (v / 4096 % 64) = g1 at s1 q1
      generalize sgn (v / 64 % 64) = g2 at s2 q2
      generalize sgn (v % 64) = g3 at s3 q3
      have S1 := hide s1; have S2 := hide s2; have S3 := hide s3
      have hvn : v ≤ 16777215 := by omega
      clear s1 s2 s3 hv24 hb0 hb1 hb2
      refine s0.mono ?_
      rintro e w1 ⟨rfl, rfl⟩
      clear s0
      go_wp2_with fail
      refine (unhide S1).mono ?_
      rintro e w1 ⟨rfl, rfl⟩
      go_wp2_with fail
      refine (unhide S2).mono ?_
      rintro e w1 ⟨rfl, rfl⟩
      go_wp2_with fail
      refine (unhide S3).mono ?_
      rintro e w1 ⟨rfl, rfl⟩
      have hacs : acc.size ≤ 140737488355328 := by have := unhide Hal; omega
      have hll : s.data.toList.length = s.size := Array.length_toList
      have hfour : Hid (∀ n, n = min 3 (s.size - q) → b64L (s.data.toList.drop q) = [put4 v n 0, put4 v n 1, put4 v n 2, put4 v n 3] ++ b64L (s.data.toList.drop (q + 3))) := by
        rintro n rfl
        have hne : s.data.toList.drop q ≠ [] := fun e => by
          have := congrArg List.length e
          simp at this
          omega
        rw [b64L_cons hne, List.drop_drop, ← hp.out]
        congr 1
        unfold four val3
        obtain ⟨e0, e1, e2⟩ := unhide Ht
        simp only [List.getD_eq_getElem?_getD, List.getElem?_drop, Nat.add_zero] at e0 e1 e2 ⊢
        rw [e0, e1, e2, hv.out, List.length_drop, hll]
      have p2 : Hid (∀ n, n < 2 → put4 v n 2 = 61) := fun n h => by unfold put4; rw [if_pos (by omega)]
      have p3 : Hid (∀ n, n < 3 → put4 v n 3 = 61) := fun n h => by unfold put4; rw [if_pos (by omega)]
      clear hll
      rcases Nat.lt_or_ge s.size (q + 2) with h1 | h1
      · have hr : (s.size : Int) = q + 1 := by omega
        go_wp2_with fail
        have hF : b64L (s.data.toList.drop q) = [g0, g1, 61, 61] ++ b64L (s.data.toList.drop (q + 3)) := by
          rw [hfour.out 1 (by omega), q0.out.2, q1.out 1 (by omega), p2.out 1 (by omega), p3.out 1 (by omega)]
        have hal := unhide Hal
        rw [hF, List.length_append] at hal
        refine ⟨⟨q + 3, _, rfl, by rfl, by omega, ?_, ?_, Lib.hid trivial⟩, by simp [intOf]; omega⟩
        · rw [ByteArray.size_append]
          have : ((⟨#[g0]⟩ ++ ⟨#[g1]⟩ ++ ⟨#[g2]⟩ ++ ⟨#[g3]⟩ : ByteArray).extract 0 2 ++ ⟨#[61, 61]⟩ : ByteArray).size = 4 := rfl
          rw [this]
          simp at hal
          omega
        · rw [Hid, ← hacc.out, hF, ByteArray.data_append, Array.toList_append, List.append_assoc]
          rfl
      · rcases Nat.lt_or_ge s.size (q + 3) with h2 | h2
        · have hr : (s.size : Int) = q + 2 := by omega
          go_wp2_with fail
          have hF : b64L (s.data.toList.drop q) = [g0, g1, g2, 61] ++ b64L (s.data.toList.drop (q + 3)) := by
            rw [hfour.out 2 (by omega), q0.out.2, q1.out 2 (by omega), q2.out 2 (by omega), p3.out 2 (by omega)]
          have hal := unhide Hal
          rw [hF, List.length_append] at hal
          refine ⟨⟨q + 3, _, rfl, by rfl, by omega, ?_, ?_, Lib.hid trivial⟩, by simp [intOf]; omega⟩
          · rw [ByteArray.size_append]
            have : ((⟨#[g0]⟩ ++ ⟨#[g1]⟩ ++ ⟨#[g2]⟩ ++ ⟨#[g3]⟩ : ByteArray).extract 0 3 ++ ⟨#[61]⟩ : ByteArray).size = 4 := rfl
            rw [this]
            simp at hal
            omega
          · rw [Hid, ← hacc.out, hF, ByteArray.data_append, Array.toList_append, List.append_assoc]
            rfl
        · have hr1 : ((s.size : Int) - q == 1) = false := by simp; omega
          have hr2 : ((s.size : Int) - q == 2) = false := by simp; omega
          go_wp2_with fail
          have hF : b64L (s.data.toList.drop q) = [g0, g1, g2, g3] ++ b64L (s.data.toList.drop (q + 3)) := by
            rw [hfour.out 3 (by omega), q0.out.2, q1.out 3 (by omega), q2.out 3 (by omega), q3.out 3 (by omega)]
          have hal := unhide Hal
          rw [hF, List.length_append] at hal
          refine ⟨⟨q + 3, _, rfl, by rfl, by omega, ?_, ?_, Lib.hid trivial⟩, by simp [intOf]; omega⟩
          · rw [ByteArray.size_append]
            have : ((⟨#[g0]⟩ ++ ⟨#[g1]⟩ ++ ⟨#[g2]⟩ ++ ⟨#[g3]⟩ : ByteArray) : ByteArray).size = 4 := rfl
            rw [this]
            simp at hal
            omega
          · rw [Hid, ← hacc.out, hF, ByteArray.data_append, Array.toList_append, List.append_assoc]
            rfl
    · have hd : Hid (acc = b64S s) := by
        apply bs_eq
        have h := hacc.out
        rw [List.drop_eq_nil_of_le (by rw [Array.length_toList]; exact hge), b64L_nil, List.append_nil] at h
        rw [h]
        rfl
      go_wp2_with fail
      go_ret
      exact ⟨ret_str hd.out, rfl⟩
end Go.Proofs.YtfhaoamlagnpjaaDoor

set_option linter.unusedVariables false
set_option linter.unusedSimpArgs false
namespace Go.Proofs.YtfhaoamlagnpjaaDoor
open Go.RowKit Go.Lib
set_option maxRecDepth 100000 in
set_option maxHeartbeats 1000000 in
theorem ramong_any (v : Value) (xs : List SigR) (s : SigR) (base : Nat) (w : World) (hn : xs.length ≤ 1099511627776) (hO : OwnG w base v xs) :
    Calls Tryd.prog 64 #[v, sigV s] w fun e w' => e = .returned (.bool (amongV xs s)) ∧ Below w.heap.size w w' := by
  obtain ⟨A, c, rfl⟩ := hO.slice
  have hcell : ∀ j (hj : j < xs.length), ∃ g, A = some ⟨g, 0, none⟩ ∧ g < w.heap.size ∧ w.cell? ⟨g, j * 3, none⟩ = some (.string xs[j].nm) ∧ w.cell? ⟨g, j * 3 + 1, none⟩ = some (.string xs[j].id) := fun j hj => by
    rcases hO.form with ⟨_, he⟩ | ⟨g, cap, hv, h1, h2, h3⟩
    · rw [he] at hj; simp at hj
    · injection hv with e1 e2 e3
      subst e1 e3
      exact ⟨g, rfl, h2, hO.cell j 0 hj (by omega), hO.cell j 1 hj (by omega)⟩
  have HC := hide hcell; clear hcell hO
  obtain ⟨sn, si, sm⟩ := s
  unfold sigV
  go_enter Tryd.func64, Tryd.ntmps64
  go_wp2_with fail
  have hb0 : Below w.heap.size w (w.alloc (.cells #[.string sn, .string si, .string sm] 71)) := (Below.refl _ _).alloc (Nat.le_refl _) _
  have hB0 := Blk.new w 71 #[.string sn, .string si, .string sm]
  generalize (w.alloc (.cells #[.string sn, .string si, .string sm] 71)) = w0 at *
  have H0 := hide (And.intro hb0 hB0); clear hb0 hB0
  go_loopw [5] (fun i wr => ∃ k : Nat, k ≤ xs.length ∧ i = .int .i64 k ∧ Hid (∀ j (hj : j < xs.length), j < k → sameKey xs[j] ⟨sn, si, sm⟩ = false) ∧ Below w.heap.size w wr ∧ Blk wr w.heap.size 71 #[.string sn, .string si, .string sm]) (fun i _ => xs.length - (RowKit.intOf i).toNat)
  case atStart => exact ⟨0, by omega, rfl, Lib.hid (fun j _ h => by omega), (unhide H0).1, (unhide H0).2⟩
  case round =>
    clear H0
    obtain ⟨k, hk, rfl, hI, hb, hB⟩ := hrel
    rcases Nat.lt_or_ge k xs.length with hlt | hge
    · obtain ⟨g, rfl, hg, c0, c1⟩ := unhide HC k hlt
      have c0' := (hb.cell (p := ⟨g, k * 3, none⟩) hg).trans c0
      have c1' := (hb.cell (p := ⟨g, k * 3 + 1, none⟩) hg).trans c1
      have d0 := hB.cell 0; have d1 := hB.cell 1
      simp only [List.getElem?_toArray, List.getElem?_cons_zero, List.getElem?_cons_succ] at d0 d1
      have hk2 : (k : Int) < (xs.length : Int) := by omega
      have k0 : (0 : Int) ≤ (k : Int) := by omega
      have hno : Hid (sameKey xs[k] ⟨sn, si, sm⟩ = true → amongV xs ⟨sn, si, sm⟩ = true) := fun h => by
        unfold amongV
        rw [List.any_eq_true]
        exact ⟨_, List.getElem_mem hlt, h⟩
      have hst : Hid (sameKey xs[k] ⟨sn, si, sm⟩ = false → ∀ j (hj : j < xs.length), j < k + 1 → sameKey xs[j] ⟨sn, si, sm⟩ = false) := fun h j hj hjk => by
        rcases Nat.lt_succ_iff_lt_or_eq.1 hjk with h' | rfl
        · exact hI.out j hj h'
        · exact h
      have HX := hide (And.intro hb hB); clear hI hb hB c0 c1
      generalize xs[k] = x at *
      obtain ⟨xn, xi, xm⟩ := x
      by_cases h1 : xn = sn
      · have h1' : (xn.toList == sn.toList) = true := by rw [h1]; exact toList_same _
        by_cases h2 : xi = si
        · have h2' : (xi.toList == si.toList) = true := by rw [h2]; exact toList_same _
          have hr := Lib.hid (hno.out (by simp [sameKey, h1, h2]))
          clear hno hst h1 h2
          go_wp2_with fail
          go_quiet (fail)
          go_wp2_with fail
          go_ret
          exact ⟨by rw [hr.out]; rfl, below_drewN (unhide HX).1 _⟩
        · have h2' := toList_ne h2
          have hr := Lib.hid (hst.out (by simp [sameKey, h2]))
          clear hno hst h1 h2
          go_wp2_with fail
          go_quiet (fail)
          go_wp2_with fail
          go_roundw
          case rel => exact ⟨k + 1, by omega, by go_num, hr, below_drewN (unhide HX).1 _, (unhide HX).2.drewN _⟩
          case measure => simp [RowKit.intOf]; omega
      · have h1' := toList_ne h1
        have hr := Lib.hid (hst.out (by simp [sameKey, h1]))
        clear hno hst h1
        go_wp2_with fail
        go_quiet (fail)
        go_wp2_with fail
        go_roundw
        case rel => exact ⟨k + 1, by omega, by go_num, hr, below_drewN (unhide HX).1 _, (unhide HX).2.drewN _⟩
        case measure => simp [RowKit.intOf]; omega
    · have hk2 : ¬ (k : Int) < (xs.length : Int) := by omega
      have hr : Hid (amongV xs ⟨sn, si, sm⟩ = false) := by
        unfold amongV
        rw [Hid, List.any_eq_false]
        intro x hx
        obtain ⟨j, hj, rfl⟩ := List.mem_iff_getElem.1 hx
        rw [hI.out j hj (by omega)]
        simp
      have H1 := hide hb; clear hb
      go_wp2_with fail
      go_ret
      exact ⟨by rw [hr.out]; rfl, unhide H1⟩
/-- A signature's line. -/
def sigLine (x : SigR) : ByteArray := ⟨#[226, 128, 148, 32]⟩ ++ x.nm ++ ⟨#[32]⟩ ++ b64S (x.id ++ x.mc) ++ ⟨#[10]⟩
set_option maxRecDepth 100000 in
set_option maxHeartbeats 1000000 in
theorem rline_any (x : SigR) (w : World) (h1 : x.nm.size ≤ 1099511627776) (h2 : x.id.size ≤ 1099511627776) (h3 : x.mc.size ≤ 1099511627776) :
    Calls Tryd.prog 91 #[sigV x] w fun e w' => e = .returned (.string (sigLine x)) ∧ Below w.heap.size w w' := by
  obtain ⟨xn, xi, xm⟩ := x
  simp only at h1 h2 h3
  have hb64 := fun W => rb64_any (xi ++ xm) W (by rw [ByteArray.size_append]; omega)
  have hbs := b64S_size (xi ++ xm)
  rw [ByteArray.size_append] at hbs
  obtain ⟨D, hD⟩ : ∃ D, Hid (b64S (xi ++ xm) = D) := ⟨_, Lib.hid rfl⟩
  rw [hD.out] at hb64 hbs
  have hDs : D.size ≤ 4398046511104 := by omega
  have HB := hide hb64; clear hb64 hbs
  have e4 : (⟨#[226, 128, 148, 32]⟩ : ByteArray).size = 4 := rfl
  have e1 : (⟨#[32]⟩ : ByteArray).size = 1 := rfl
  have e10 : (⟨#[10]⟩ : ByteArray).size = 1 := rfl
  have x1 : ¬ 9223372036854775807 < 4 + xn.size := by omega
  have x2 : ¬ 9223372036854775807 < 4 + xn.size + 1 := by omega
  have x3 : ¬ 9223372036854775807 < xi.size + xm.size := by omega
  have x4 : ¬ 9223372036854775807 < 4 + xn.size + 1 + D.size := by omega
  have x5 : ¬ 9223372036854775807 < 4 + xn.size + 1 + D.size + 1 := by omega
  have hb0 : Below w.heap.size w (w.alloc (.cells #[.string xn, .string xi, .string xm] 71)) := (Below.refl _ _).alloc (Nat.le_refl _) _
  have hB0 := Blk.new w 71 #[.string xn, .string xi, .string xm]
  have c0 := hB0.cell 0; have c1 := hB0.cell 1; have c2 := hB0.cell 2
  simp only [List.getElem?_toArray, List.getElem?_cons_zero, List.getElem?_cons_succ] at c0 c1 c2
  have H0 := hide hb0; clear hb0 hB0
  unfold sigV
  go_enter Tryd.func91, Tryd.ntmps91
  go_wp2_with fail
  go_quiet (first | (go_at_call 48; exact quiet_left (unhide HB _)))
  go_wp2_with fail
  go_ret
  exact ⟨ret_str (by unfold sigLine; rw [hD.out]), below_drewN (unhide H0) _⟩
end Go.Proofs.YtfhaoamlagnpjaaDoor

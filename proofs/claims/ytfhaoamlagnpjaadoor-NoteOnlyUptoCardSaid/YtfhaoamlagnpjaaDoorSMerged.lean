/-
  CONTRACT of the law's helper merged: the opened note's lines in the note's order.
-/
import Derived.Test.YtfhaoamlagnpjaaDoorRows
import Derived.Deep.RegionHeld3
import Derived.Deep.DeepMust
import Derived.Deep.DeepCutAuto
import Derived.Outline
import Derived.Test.YtfhaoamlagnpjaaDoorGBase
import Derived.Test.YtfhaoamlagnpjaaDoorSOnlyP
import Derived.Test.YtfhaoamlagnpjaaDoorGDecs
import Derived.Test.YtfhaoamlagnpjaaDoorSHeldO
import Derived.Test.YtfhaoamlagnpjaaDoorSOwned
set_option linter.unusedVariables false
set_option linter.unusedSimpArgs false
namespace Go.Proofs.YtfhaoamlagnpjaaDoor
open Go.RowKit Go.Lib
theorem openG_lens (t : ByteArray) (ks : List KeyR) : ∀ (S a b g r : List SigR), openG t ks S a b = some (g, r) → g.length + r.length = a.length + b.length + S.length
  | [], a, b, g, r, h => by
    simp only [openG, Option.some.injEq, Prod.mk.injEq] at h; obtain ⟨rfl, rfl⟩ := h
    simp
  | x :: xs, a, b, g, r, h => by
    rw [openG] at h
    split at h
    · have := openG_lens t ks xs _ _ _ _ h
      simp only [List.length_append, List.length_cons, List.length_nil] at this ⊢; omega
    · split at h
      · have := openG_lens t ks xs _ _ _ _ h
        simp only [List.length_append, List.length_cons, List.length_nil] at this ⊢; omega
      · cases h
theorem openG_from (t : ByteArray) (ks : List KeyR) : ∀ (S a b g r : List SigR), openG t ks S a b = some (g, r) → (∀ x ∈ a, x ∈ S) → ∀ x ∈ g, x ∈ S := by
  have key : ∀ (S a b g r : List SigR), openG t ks S a b = some (g, r) → ∀ x ∈ g, x ∈ a ∨ x ∈ S := by
    intro S
    induction S with
    | nil =>
      intro a b g r h x hx
      simp only [openG, Option.some.injEq, Prod.mk.injEq] at h; obtain ⟨rfl, rfl⟩ := h
      exact .inl hx
    | cons y ys ih =>
      intro a b g r h x hx
      rw [openG] at h
      split at h
      · rcases ih _ _ _ _ h x hx with h1 | h1
        · exact .inl h1
        · exact .inr (List.mem_cons_of_mem _ h1)
      · split at h
        · rcases ih _ _ _ _ h x hx with h1 | h1
          · rcases List.mem_append.1 h1 with h2 | h2
            · exact .inl h2
            · rw [List.mem_singleton.1 h2]; exact .inr List.mem_cons_self
          · exact .inr (List.mem_cons_of_mem _ h1)
        · cases h
  intro S a b g r h ha x hx
  rcases key S a b g r h x hx with h1 | h1
  · exact ha x h1
  · exact h1
set_option maxRecDepth 100000 in
set_option maxHeartbeats 4000000 in
theorem merged_any (t : ByteArray) (ks : List KeyR) (S g r : List SigR) (vg vr : Value) (w : World) (hB : (writB t S).size ≤ 65536) (ho : openG t ks S [] [] = some (g, r)) (hS : ∀ x ∈ S, nameOk x.nm = true ∧ SigOk x) (h16 : S.length ≤ 16) (b0 : Nat) (hg : OwnG w b0 vg g) (hr : OwnG w b0 vr r) :
    Calls Tryd.prog 35 #[.string (writB t S), .agg #[.string t, vg, vr]] w fun e w' => e = .returned (.tuple #[.string (writB t S), .bool true]) ∧ Below w.heap.size w w' := by
  obtain ⟨Ag, cg, rfl⟩ := hg.slice
  obtain ⟨Ar, cr, rfl⟩ := hr.slice
  have hG : ∀ x ∈ g, Mine t ks x := openG_mine t ks S [] [] g r ho (fun x hx => by simp at hx)
  have hH : HeldO (w.alloc (.cells #[.string t, .slice Ag g.length cg, .slice Ar r.length cr] 53)) w.heap.size t g r (.slice Ag g.length cg) (.slice Ar r.length cr) b0 := ⟨Blk.new _ _ _, hg.alloc _, hr.alloc _⟩
  have hb0 : Below w.heap.size w (w.alloc (.cells #[.string t, .slice Ag g.length cg, .slice Ar r.length cr] 53)) := (Below.refl _ _).alloc (Nat.le_refl _) _
  have htz : t.size ≤ 65536 := by
    have h1 : (writB t S).size = (writL t S).length := by show (writL t S).toArray.size = _; rw [List.size_toArray]
    have h2 := congrArg List.length (writL_join t S)
    have h3 : t.data.toList.length = t.size := rfl
    simp only [List.length_append, List.length_cons] at h2
    omega
  have hx0 : ¬ 9223372036854775807 < t.size + 1 := by omega
  have e4 : (⟨#[226, 128, 148, 32]⟩ : ByteArray).size = 4 := rfl
  have e1 : (⟨#[32]⟩ : ByteArray).size = 1 := rfl
  have e10 : (⟨#[10]⟩ : ByteArray).size = 1 := rfl
  have h00 : t ++ ⟨#[10]⟩ = writB t (S.take 0) := by
    apply ByteArray.ext; apply Array.ext'; simp [writB, writL, sigsL]
  have hM0 := MergAt.start ho
  have hgr : g.length + r.length ≤ 16 := by have := openG_lens t ks S [] [] g r ho; simp only [List.length_nil] at this; omega
  have HGS := hide (openG_from t ks S [] [] g r ho (fun x hx => by simp at hx))
  have HX := hide (And.intro hH hb0); have HG := hide hG; have HM := hide hM0; have H00 := Lib.hid h00; clear hH hb0 hg hr hG ho hM0 h00
  obtain ⟨B, hBB⟩ : ∃ B, Hid (writB t S = B) := ⟨_, Lib.hid rfl⟩
  rw [hBB.out] at hB ⊢
  obtain ⟨z, hz⟩ : ∃ z, Hid (writB t (S.take 0) = z) := ⟨_, Lib.hid rfl⟩
  go_enter Tryd.func35, Tryd.ntmps35
  go_wp2_with fail
  generalize hw0 : w.alloc (.cells #[.string t, .slice Ag g.length cg, .slice Ar r.length cr] 53) = w0 at *
  generalize hg0 : w.heap.size = g0 at *
  clear hw0
  rw [H00.out, hz.out]
  go_loopw [6, 7, 8, 9, 10] (fun o i j _ _ wr => ∃ ki ii jj : Nat, MergAt t ks S g r ki ii jj ∧ o = .string (writB t (S.take ki)) ∧ i = .int .i64 (ii : Int) ∧ j = .int .i64 (jj : Int) ∧ HeldO wr g0 t g r (.slice Ag g.length cg) (.slice Ar r.length cr) b0 ∧ Below g0 w wr) (fun _ i j _ _ _ => g.length + r.length - ((RowKit.intOf i).toNat + (RowKit.intOf j).toNat))
  case atStart => exact ⟨0, 0, 0, unhide HM, by rw [hz.out], rfl, rfl, (unhide HX).1, (unhide HX).2⟩
  case round =>
    clear HX HM H00
    obtain ⟨ki, ii, jj, hM, rfl, rfl, rfl, hH, hb⟩ := hrel
    have hig : ii ≤ g.length := hM.2.1
    have hjr : jj ≤ r.length := hM.2.2.1
    obtain ⟨n0, n1, n2⟩ : wr.cell? ⟨g0, 0, none⟩ = some (.string t) ∧ wr.cell? ⟨g0, 1, none⟩ = some (.slice Ag g.length cg) ∧ wr.cell? ⟨g0, 2, none⟩ = some (.slice Ar r.length cr) := by
      have n0 := hH.1.cell 0; have n1 := hH.1.cell 1; have n2 := hH.1.cell 2
      simp only [List.getElem?_toArray, List.getElem?_cons_zero, List.getElem?_cons_succ] at n0 n1 n2
      exact ⟨n0, n1, n2⟩
    rcases Nat.lt_or_ge ki S.length with hk | hk
    · rcases hM.step hk (unhide HG) with ⟨hi, hgi, hM'⟩ | ⟨hj, hrj, hng, hM'⟩
      · have hgo := (goesOn_iff t S ki hk g[ii] (by rw [hgi]; exact (hS _ (List.getElem_mem hk)).1) (by rw [hgi]; exact (hS _ (List.getElem_mem hk)).2) hS).2 hgi
        have hnx := writB_next t S ki hk
        have hxo : SigOk g[ii] := by rw [hgi]; exact (hS _ (List.getElem_mem hk)).2
        rw [← hgi] at hnx
        obtain ⟨gb, hgb, c0, c1, c2⟩ := hH.2.1.at_ ii hi
        subst hgb
        unfold goesOn at hgo
        simp only [Bool.and_eq_true, decide_eq_true_eq] at hgo
        generalize g[ii] = x at *
        obtain ⟨xn, xi, xm⟩ := x
        have t1 : (ii : Int) < (g.length : Int) := by omega
        have t0 : (0 : Int) ≤ (ii : Int) := by omega
        have hwz : g0 ≤ wr.heap.size := by have := hb.size; omega
        simp only [SigOk] at hxo c0 c1 c2
        have hb64 := fun W => b64_any (xi ++ xm) W (by rw [ByteArray.size_append]; omega)
        have hbs := b64S_size (xi ++ xm)
        rw [ByteArray.size_append] at hbs
        unfold sigLine at hgo hnx
        obtain ⟨D, hD⟩ : ∃ D, Hid (b64S (xi ++ xm) = D) := ⟨_, Lib.hid rfl⟩
        simp only at hgo hnx
        rw [hD.out] at hb64 hbs hgo hnx
        have hDs : D.size ≤ 4398046511104 := by omega
        have x1 : ¬ 9223372036854775807 < 4 + xn.size := by omega
        have x2 : ¬ 9223372036854775807 < 4 + xn.size + 1 := by omega
        have x3 : ¬ 9223372036854775807 < xi.size + xm.size := by omega
        have x4 : ¬ 9223372036854775807 < 4 + xn.size + 1 + D.size := by omega
        have x5 : ¬ 9223372036854775807 < 4 + xn.size + 1 + D.size + 1 := by omega
        clear hbs
        have HB := hide hb64; have HH := hide (And.intro (hH.next (Below.refl _ _).drew) (And.intro hb.drew hM')); have HGO := hide (And.intro hgo hnx); clear hb64 hgo hnx hH hb hM hM' hgi
        go_wp2_with fail
        go_region_held3 (fun W => W.cell? ⟨g0, 1, none⟩ = some (.slice (some ⟨gb, 0, none⟩) g.length cg) ∧ W.cell? ⟨gb, ii * 3, none⟩ = some (.string xn) ∧ W.cell? ⟨gb, ii * 3 + 1, none⟩ = some (.string xi) ∧ W.cell? ⟨gb, ii * 3 + 2, none⟩ = some (.string xm)) (refine ⟨?_, ?_, ?_, ?_⟩ <;> assumption) (first
          | (go_at_call 44; refine ((unhide HB) wr.drew).mono ?_; rintro e w2 ⟨rfl, hb2⟩; have n12 := (hb2.cell (p := ⟨g0, 1, none⟩) (World.block_lt_of_cell? wr _ n1)).trans n1; have c02 := (hb2.cell (p := ⟨gb, ii * 3, none⟩) (World.block_lt_of_cell? wr _ c0)).trans c0; have c12 := (hb2.cell (p := ⟨gb, ii * 3 + 1, none⟩) (World.block_lt_of_cell? wr _ c1)).trans c1; have c22 := (hb2.cell (p := ⟨gb, ii * 3 + 2, none⟩) (World.block_lt_of_cell? wr _ c2)).trans c2; have hH2 := (unhide HH).1.next hb2; have hb22 := (unhide HH).2.1.trans (hb2.mono hwz); have HH2 := hide (And.intro hH2 hb22); clear hb2 hH2 hb22))
        obtain ⟨hgo, hnx⟩ := unhide HGO
        obtain ⟨L, hL⟩ : ∃ L, Hid ((⟨#[226, 128, 148, 32]⟩ : ByteArray) ++ xn ++ ⟨#[32]⟩ ++ D ++ ⟨#[10]⟩ = L) := ⟨_, Lib.hid rfl⟩
        rw [hL.out] at hgo hnx ⊢
        have hLz : 0 < L.size := by rw [← hL.out]; simp only [ByteArray.size_append]; omega
        obtain ⟨b, hbb⟩ : ∃ b, Hid (writB t (S.take ki) = b) := ⟨_, Lib.hid rfl⟩
        rw [hBB.out, hbb.out] at hgo
        rw [hbb.out] at hnx
        rw [hbb.out]
        obtain ⟨hg1, hg2⟩ := hgo
        have q0 : ¬ L.toList = [] := fun e => by
          have h3 := toList_ne (a := L) (b := ⟨#[]⟩) (fun e => by rw [e] at hLz; exact absurd hLz (by decide))
          rw [e] at h3; simp at h3
        have q7 : L.toList.isEmpty = false := by cases hh : L.toList with | nil => exact absurd hh q0 | cons _ _ => rfl
        have q1 : (b.size : Int) + (L.size : Int) ≤ (B.size : Int) := by omega
        have q2 : (0 : Int) ≤ (b.size : Int) := by omega
        have q3 : (b.size : Int) ≤ (b.size : Int) + (L.size : Int) := by omega
        have q4 : ((B.extract b.size (b.size + L.size)).toList == L.toList) = true := by rw [hg2]; exact beq_self_eq_true _
        have q5 : IntKind.i64.wrap ((b.size : Int) + (L.size : Int)) = (b.size : Int) + (L.size : Int) := by rw [IntKind.wrap_i64]; omega
        have q6 : ¬ 9223372036854775807 < b.size + L.size := by omega
        have HNX := hide hnx; clear hnx hg1 hg2 hD x1 x2 x3 x4 x5 hDs
        go_upto_if 78 with fail
        go_wp2_with fail
        go_roundw
        case rel => exact ⟨ki + 1, ii + 1, jj, (unhide HH).2.2, by rw [unhide HNX], by go_num, rfl, (unhide HH2).1, (unhide HH2).2⟩
        case measure => simp [RowKit.intOf]; omega
      · have hmem : ∀ x ∈ g, nameOk x.nm = true ∧ SigOk x := fun x hx => hS x (unhide HGS x hx)
        have hgk := (goesOn_iff t S ki hk S[ki] (hS _ (List.getElem_mem hk)).1 (hS _ (List.getElem_mem hk)).2 hS).2 rfl
        have hnx := writB_next t S ki hk
        have hyo : SigOk S[ki] := (hS _ (List.getElem_mem hk)).2
        unfold goesOn at hgk
        simp only [Bool.and_eq_true, decide_eq_true_eq] at hgk
        have hgz := hgk.1
        clear hgk
        obtain ⟨gr, hgr, d0, d1, d2⟩ := hH.2.2.at_ jj hj
        subst hgr
        rw [hrj] at d0 d1 d2
        have hwz : g0 ≤ wr.heap.size := by have := hb.size; omega
        have t2 : (jj : Int) < (r.length : Int) := by omega
        have t3 : (0 : Int) ≤ (jj : Int) := by omega
        have hgq : ∀ hi : ii < g.length, SigOk g[ii] ∧ ¬ goesOn (writB t S) (writB t (S.take ki)).size g[ii] = true := fun hi => ⟨(hmem _ (List.getElem_mem hi)).2, fun e => hng (by rw [← (goesOn_iff t S ki hk g[ii] (hmem _ (List.getElem_mem hi)).1 (hmem _ (List.getElem_mem hi)).2 hS).1 e]; exact List.getElem_mem hi)⟩
        generalize S[ki] = y at *
        obtain ⟨yn, yi, ym⟩ := y
        simp only [SigOk] at hyo d0 d1 d2
        have hb64 := fun W => b64_any (yi ++ ym) W (by rw [ByteArray.size_append]; omega)
        have hbs := b64S_size (yi ++ ym)
        rw [ByteArray.size_append] at hbs
        unfold sigLine at hgz hnx
        obtain ⟨D, hD⟩ : ∃ D, Hid (b64S (yi ++ ym) = D) := ⟨_, Lib.hid rfl⟩
        simp only at hgz hnx
        rw [hD.out] at hb64 hbs hgz hnx
        have hDs : D.size ≤ 4398046511104 := by omega
        obtain ⟨b, hbb⟩ : ∃ b, Hid (writB t (S.take ki) = b) := ⟨_, Lib.hid rfl⟩
        rw [hBB.out, hbb.out] at hgz hgq
        rw [hbb.out] at hnx
        rw [hbb.out]
        have hgz2 : b.size + (4 + yn.size + 1 + D.size + 1) ≤ B.size := by
          simp only [ByteArray.size_append] at hgz; exact hgz
        have hbz : b.size ≤ 65536 := by omega
        have y1 : ¬ 9223372036854775807 < b.size + 4 := by omega
        have y2 : ¬ 9223372036854775807 < b.size + 4 + yn.size := by omega
        have y3 : ¬ 9223372036854775807 < b.size + 4 + yn.size + 1 := by omega
        have y4 : ¬ 9223372036854775807 < b.size + 4 + yn.size + 1 + D.size := by omega
        have y5 : ¬ 9223372036854775807 < b.size + 4 + yn.size + 1 + D.size + 1 := by omega
        have y6 : ¬ 9223372036854775807 < yi.size + ym.size := by omega
        have HB := hide hb64; have HNX := hide hnx; clear hb64 hgz hgz2 hnx hrj hng hbs hDs hD hmem hyo
        by_cases hi : ii < g.length
        · obtain ⟨hxo, hgo⟩ := hgq hi
          obtain ⟨gb, hgb, c0, c1, c2⟩ := hH.2.1.at_ ii hi
          subst hgb
          unfold goesOn at hgo
          simp only [Bool.and_eq_true, decide_eq_true_eq] at hgo
          clear hgq
          generalize g[ii] = x at *
          obtain ⟨xn, xi, xm⟩ := x
          have t1 : (ii : Int) < (g.length : Int) := by omega
          have t0 : (0 : Int) ≤ (ii : Int) := by omega
          simp only [SigOk] at hxo c0 c1 c2
          have hb64 := fun W => b64_any (xi ++ xm) W (by rw [ByteArray.size_append]; omega)
          have hbs := b64S_size (xi ++ xm)
          rw [ByteArray.size_append] at hbs
          unfold sigLine at hgo
          obtain ⟨E, hE⟩ : ∃ E, Hid (b64S (xi ++ xm) = E) := ⟨_, Lib.hid rfl⟩
          simp only at hgo
          rw [hE.out] at hb64 hbs hgo
          have hEs : E.size ≤ 4398046511104 := by omega
          have x1 : ¬ 9223372036854775807 < 4 + xn.size := by omega
          have x2 : ¬ 9223372036854775807 < 4 + xn.size + 1 := by omega
          have x3 : ¬ 9223372036854775807 < xi.size + xm.size := by omega
          have x4 : ¬ 9223372036854775807 < 4 + xn.size + 1 + E.size := by omega
          have x5 : ¬ 9223372036854775807 < 4 + xn.size + 1 + E.size + 1 := by omega
          have hEz : (⟨#[226, 128, 148, 32]⟩ ++ xn ++ ⟨#[32]⟩ ++ E ++ ⟨#[10]⟩ : ByteArray).size ≤ 4398046511204 := by simp only [ByteArray.size_append]; omega
          clear hbs hEs
          have HBX := hide hb64; have HH := hide (And.intro (hH.next (Below.refl _ _).drew) (And.intro hb.drew hM')); have HGO := hide hgo; have HEZ := hide hEz; clear hb64 hgo hH hb hM hM' hEz
          go_wp2_with fail
          go_region_held3 (fun W => W.cell? ⟨g0, 1, none⟩ = some (.slice (some ⟨gb, 0, none⟩) g.length cg) ∧ W.cell? ⟨gb, ii * 3, none⟩ = some (.string xn) ∧ W.cell? ⟨gb, ii * 3 + 1, none⟩ = some (.string xi) ∧ W.cell? ⟨gb, ii * 3 + 2, none⟩ = some (.string xm)) (refine ⟨?_, ?_, ?_, ?_⟩ <;> assumption) (first
            | (go_at_call 44; refine ((unhide HBX) wr.drew).mono ?_; rintro e w2 ⟨rfl, hb2⟩; have n12 := (hb2.cell (p := ⟨g0, 1, none⟩) (World.block_lt_of_cell? wr _ n1)).trans n1; have c02 := (hb2.cell (p := ⟨gb, ii * 3, none⟩) (World.block_lt_of_cell? wr _ c0)).trans c0; have c12 := (hb2.cell (p := ⟨gb, ii * 3 + 1, none⟩) (World.block_lt_of_cell? wr _ c1)).trans c1; have c22 := (hb2.cell (p := ⟨gb, ii * 3 + 2, none⟩) (World.block_lt_of_cell? wr _ c2)).trans c2; have n22 := (hb2.cell (p := ⟨g0, 2, none⟩) (World.block_lt_of_cell? wr _ n2)).trans n2; have d02 := (hb2.cell (p := ⟨gr, jj * 3, none⟩) (World.block_lt_of_cell? wr _ d0)).trans d0; have d12 := (hb2.cell (p := ⟨gr, jj * 3 + 1, none⟩) (World.block_lt_of_cell? wr _ d1)).trans d1; have d22 := (hb2.cell (p := ⟨gr, jj * 3 + 2, none⟩) (World.block_lt_of_cell? wr _ d2)).trans d2; have hwz2 : g0 ≤ w2.heap.size := Nat.le_trans hwz hb2.size; have hH2 := (unhide HH).1.next hb2; have hb22 := (unhide HH).2.1.trans (hb2.mono hwz); have HT := hide (And.intro (hH2.next (Below.refl _ _).drew) (And.intro hb22.drew (unhide HH).2.2)); clear hb2 hH2 hb22))
          have hgo := unhide HGO
          have hEz := unhide HEZ
          obtain ⟨L, hL⟩ : ∃ L, Hid ((⟨#[226, 128, 148, 32]⟩ : ByteArray) ++ xn ++ ⟨#[32]⟩ ++ E ++ ⟨#[10]⟩ = L) := ⟨_, Lib.hid rfl⟩
          rw [hL.out] at hgo hEz ⊢
          have hLz : 0 < L.size := by rw [← hL.out]; simp only [ByteArray.size_append]; omega
          have q0 : ¬ L.toList = [] := fun e => by
            have h3 := toList_ne (a := L) (b := ⟨#[]⟩) (fun e => by rw [e] at hLz; exact absurd hLz (by decide))
            rw [e] at h3; simp at h3
          have q7 : L.toList.isEmpty = false := by cases hh : L.toList with | nil => exact absurd hh q0 | cons _ _ => rfl
          have q2 : (0 : Int) ≤ (b.size : Int) := by omega
          have q3 : (b.size : Int) ≤ (b.size : Int) + (L.size : Int) := by omega
          have q5 : IntKind.i64.wrap ((b.size : Int) + (L.size : Int)) = (b.size : Int) + (L.size : Int) := by rw [IntKind.wrap_i64]; omega
          have q6 : ¬ 9223372036854775807 < b.size + L.size := by omega
          clear hE x1 x2 x3 x4 x5 hEz
          by_cases hsz : b.size + L.size ≤ B.size
          · have q1 : (b.size : Int) + (L.size : Int) ≤ (B.size : Int) := by omega
            have q4 : ((B.extract b.size (b.size + L.size)).toList == L.toList) = false := toList_ne (fun e => hgo ⟨hsz, e⟩)
            clear hgo
            go_upto_if 78 with fail
            go_wp2_with fail
            go_region_held3 (fun W => W.cell? ⟨g0, 2, none⟩ = some (.slice (some ⟨gr, 0, none⟩) r.length cr) ∧ W.cell? ⟨gr, jj * 3, none⟩ = some (.string yn) ∧ W.cell? ⟨gr, jj * 3 + 1, none⟩ = some (.string yi) ∧ W.cell? ⟨gr, jj * 3 + 2, none⟩ = some (.string ym)) (refine ⟨?_, ?_, ?_, ?_⟩ <;> assumption) (first
              | (go_at_call 44; refine ((unhide HB) w2.drew).mono ?_; rintro e w3 ⟨rfl, hb3⟩; have n23 := (hb3.cell (p := ⟨g0, 2, none⟩) (World.block_lt_of_cell? w2 _ n22)).trans n22; have d03 := (hb3.cell (p := ⟨gr, jj * 3, none⟩) (World.block_lt_of_cell? w2 _ d02)).trans d02; have d13 := (hb3.cell (p := ⟨gr, jj * 3 + 1, none⟩) (World.block_lt_of_cell? w2 _ d12)).trans d12; have d23 := (hb3.cell (p := ⟨gr, jj * 3 + 2, none⟩) (World.block_lt_of_cell? w2 _ d22)).trans d22; have hH3 := (unhide HT).1.next hb3; have hb33 := (unhide HT).2.1.trans (hb3.mono hwz2); have HH3 := hide (And.intro hH3 hb33); clear hb3 hH3 hb33))
            go_wp2_with fail
            go_roundw
            case rel => exact ⟨ki + 1, ii, jj + 1, (unhide HT).2.2, by rw [unhide HNX]; simp only [ByteArray.append_assoc], rfl, by go_num, (unhide HH3).1, (unhide HH3).2⟩
            case measure => simp [RowKit.intOf]; omega
          · have q1 : ¬ (b.size : Int) + (L.size : Int) ≤ (B.size : Int) := by omega
            clear hgo
            go_upto_if 78 with fail
            go_wp2_with fail
            go_region_held3 (fun W => W.cell? ⟨g0, 2, none⟩ = some (.slice (some ⟨gr, 0, none⟩) r.length cr) ∧ W.cell? ⟨gr, jj * 3, none⟩ = some (.string yn) ∧ W.cell? ⟨gr, jj * 3 + 1, none⟩ = some (.string yi) ∧ W.cell? ⟨gr, jj * 3 + 2, none⟩ = some (.string ym)) (refine ⟨?_, ?_, ?_, ?_⟩ <;> assumption) (first
              | (go_at_call 44; refine ((unhide HB) w2.drew).mono ?_; rintro e w3 ⟨rfl, hb3⟩; have n23 := (hb3.cell (p := ⟨g0, 2, none⟩) (World.block_lt_of_cell? w2 _ n22)).trans n22; have d03 := (hb3.cell (p := ⟨gr, jj * 3, none⟩) (World.block_lt_of_cell? w2 _ d02)).trans d02; have d13 := (hb3.cell (p := ⟨gr, jj * 3 + 1, none⟩) (World.block_lt_of_cell? w2 _ d12)).trans d12; have d23 := (hb3.cell (p := ⟨gr, jj * 3 + 2, none⟩) (World.block_lt_of_cell? w2 _ d22)).trans d22; have hH3 := (unhide HT).1.next hb3; have hb33 := (unhide HT).2.1.trans (hb3.mono hwz2); have HH3 := hide (And.intro hH3 hb33); clear hb3 hH3 hb33))
            go_wp2_with fail
            go_roundw
            case rel => exact ⟨ki + 1, ii, jj + 1, (unhide HT).2.2, by rw [unhide HNX]; simp only [ByteArray.append_assoc], rfl, by go_num, (unhide HH3).1, (unhide HH3).2⟩
            case measure => simp [RowKit.intOf]; omega
        · have t1 : ¬ (ii : Int) < (g.length : Int) := by omega
          have HT := hide (And.intro (hH.next (Below.refl _ _).drew) (And.intro hb.drew hM')); clear hH hb hM hM' hgq
          go_wp2_with fail
          go_region_held3 (fun W => W.cell? ⟨g0, 2, none⟩ = some (.slice (some ⟨gr, 0, none⟩) r.length cr) ∧ W.cell? ⟨gr, jj * 3, none⟩ = some (.string yn) ∧ W.cell? ⟨gr, jj * 3 + 1, none⟩ = some (.string yi) ∧ W.cell? ⟨gr, jj * 3 + 2, none⟩ = some (.string ym)) (refine ⟨?_, ?_, ?_, ?_⟩ <;> assumption) (first
            | (go_at_call 44; refine ((unhide HB) wr.drew).mono ?_; rintro e w3 ⟨rfl, hb3⟩; have n23 := (hb3.cell (p := ⟨g0, 2, none⟩) (World.block_lt_of_cell? wr _ n2)).trans n2; have d03 := (hb3.cell (p := ⟨gr, jj * 3, none⟩) (World.block_lt_of_cell? wr _ d0)).trans d0; have d13 := (hb3.cell (p := ⟨gr, jj * 3 + 1, none⟩) (World.block_lt_of_cell? wr _ d1)).trans d1; have d23 := (hb3.cell (p := ⟨gr, jj * 3 + 2, none⟩) (World.block_lt_of_cell? wr _ d2)).trans d2; have hH3 := (unhide HT).1.next hb3; have hb33 := (unhide HT).2.1.trans (hb3.mono hwz); have HH3 := hide (And.intro hH3 hb33); clear hb3 hH3 hb33))
          go_wp2_with fail
          go_roundw
          case rel => exact ⟨ki + 1, ii, jj + 1, (unhide HT).2.2, by rw [unhide HNX]; simp only [ByteArray.append_assoc], rfl, by go_num, (unhide HH3).1, (unhide HH3).2⟩
          case measure => simp [RowKit.intOf]; omega
    · obtain ⟨d1, d2⟩ := hM.done (by omega)
      have t1 : ¬ (ii : Int) < (g.length : Int) := by omega
      have t2 : ¬ (jj : Int) < (r.length : Int) := by omega
      rw [List.take_of_length_le hk]
      rw [hBB.out]
      have hbb : (B.toList == B.toList) = true := beq_self_eq_true _
      have HB := hide hb; clear hb hH hM
      go_wp2_with fail
      go_ret2
      exact ⟨rfl, by first | exact unhide HB | (rw [hg0]; exact unhide HB)⟩
end Go.Proofs.YtfhaoamlagnpjaaDoor

/-
  CONTRACT of the document's line: a step's line in a script.
-/
import Derived.Test.YtaomecinemmdgaaRows
import Derived.StillTailTactics
import Derived.Deep.RegionHeld3
import Derived.Deep.RegionLaw
import Derived.Deep.DeepCutAuto
import Derived.Deep.CutBlock
import Derived.Deep.CutRange
import Derived.Test.YtaomecinemmdgaaGBase
import Derived.Test.YtaomecinemmdgaaGLns
import Derived.Test.YtaomecinemmdgaaGDecs
import Derived.Test.YtaomecinemmdgaaSREsc
import Derived.Test.YtaomecinemmdgaaSRRow
set_option linter.unusedVariables false
set_option linter.unusedSimpArgs false
namespace Go.Proofs.Ytaomecinemmdgaa
open Go.RowKit Go.Lib
/-- A list of numbers as the program reads it. -/
def IntsAt (w : World) (v : Value) (l : List Int) : Prop := ∃ A c, v = .slice A l.length c ∧ ∀ j (h : j < l.length), ∃ a, A = some a ∧ w.cell? (a.add j) = some (.int .i64 l[j])
theorem IntsAt.below {w w' : World} {v : Value} {l : List Int} (h : IntsAt w v l) (hb : Below w.heap.size w w') : IntsAt w' v l := by
  obtain ⟨A, c, hv, he⟩ := h
  refine ⟨A, c, hv, fun j hj => ?_⟩
  obtain ⟨a, ha, hc⟩ := he j hj
  exact ⟨a, ha, (hb.cell (World.block_lt_of_cell? w _ hc)).trans hc⟩
theorem IntsAt.of_blk {w : World} {g : Nat} {t : TypeId} {c : Nat} (l : List Int) (h : Blk w g t (l.map (Value.int .i64)).toArray) : IntsAt w (.slice (some ⟨g, 0, none⟩) l.length c) l := by
  refine ⟨_, c, rfl, fun j hj => ⟨_, rfl, ?_⟩⟩
  have hadd : (⟨g, 0, none⟩ : Addr).add j = ⟨g, j, none⟩ := by unfold Addr.add; split <;> simp_all
  rw [hadd, h.cell j]
  simp [hj]
/-- How long texts are in all, a sign more for each. -/
def sizeS (ss : List ByteArray) : Nat := ss.foldr (fun x n => x.size + 1 + n) 0
/-- A number that an int holds. -/
def In64 (n : Int) : Prop := -9223372036854775808 ≤ n ∧ n ≤ 9223372036854775807
set_option maxRecDepth 100000 in
theorem ropts_any (a b c d e f : Int) (w : World) : Calls Try.prog 59 #[.agg #[.int .i64 a, .int .i64 b, .int .i64 c, .int .i64 d, .int .i64 e, .int .i64 f]] w fun e' w' => ∃ v, e' = .returned v ∧ IntsAt w' v [a, b, c, d, e, f] ∧ Below w.heap.size w w' := by
  go_enter Try.func59, Try.ntmps59
  go_wp2_with fail
  go_ret
  refine ⟨_, rfl, ?_, ((Below.refl _ _).alloc (Nat.le_refl _) _).alloc (by simp) _⟩
  have h := IntsAt.of_blk (c := 6) [a, b, c, d, e, f] (Blk.new (w.alloc (.cells #[.int .i64 a, .int .i64 b, .int .i64 c, .int .i64 d, .int .i64 e, .int .i64 f] 50)) 3 #[.int .i64 a, .int .i64 b, .int .i64 c, .int .i64 d, .int .i64 e, .int .i64 f])
  have hz : (w.alloc (.cells #[.int .i64 a, .int .i64 b, .int .i64 c, .int .i64 d, .int .i64 e, .int .i64 f] 50)).heap.size = w.heap.size + 1 := by simp
  rw [hz] at h
  exact h
/-- The line so far: the word, and so many numbers. -/
def lnT (wd : ByteArray) (L : List Int) (i : Nat) : ByteArray := ⟨(wd.data.toList ++ spaced ((List.range i).map (numS L))).toArray⟩
theorem lnT_zero (wd : ByteArray) (L : List Int) : lnT wd L 0 = wd := by
  apply bs_eq
  unfold lnT
  simp [spaced]
theorem lnT_next (wd : ByteArray) (L : List Int) (i : Nat) : lnT wd L (i + 1) = lnT wd L i ++ ⟨#[32]⟩ ++ decS (L.getD i 0) := by
  apply bs_eq
  unfold lnT
  simp only [ByteArray.data_append, Array.toList_append]
  rw [List.range_succ, List.map_append]
  unfold spaced numS
  simp
theorem decS_size {n : Int} (h : In64 n) : (decS n).size ≤ 20 := by
  show (decL n).toArray.size ≤ 20
  rw [List.size_toArray]
  unfold decL
  obtain ⟨h0, h1⟩ := h
  split
  · have := digL_length 19 n.toNat (by omega) (by omega); omega
  · have := digL_length 19 (-n).toNat (by omega) (by omega)
    rw [List.length_cons]; omega
theorem lnT_size (wd : ByteArray) (L : List Int) (hL : ∀ n ∈ L, In64 n) : ∀ i, (lnT wd L i).size ≤ wd.size + 21 * i
  | 0 => by rw [lnT_zero]; omega
  | i + 1 => by
    have ih := lnT_size wd L hL i
    have hv : In64 (L.getD i 0) := by
      rw [List.getD_eq_getElem?_getD]
      cases h : L[i]? with
      | none => exact ⟨by decide, by decide⟩
      | some x => exact hL x (List.mem_of_getElem? h)
    have := decS_size hv
    rw [lnT_next, ByteArray.size_append, ByteArray.size_append]
    have e1 : (⟨#[32]⟩ : ByteArray).size = 1 := rfl
    omega
theorem shapeAt_small : ∀ k : Fin 35, (shapeAt k.val).wd.size ≤ 10 ∧ (shapeAt k.val).a ≤ 4 ∧ (shapeAt k.val).b ≤ 2 := by decide
/-- What stands through a call of line: the step and its row, each in a block. -/
structure LnX (w : World) (g0 gr k : Nat) (a b c d e f : Int) (vn vs : Value) (F : ShapeR) (W : World) : Prop where
  s : Blk W g0 52 #[.int .i64 (k : Int), vn, vs, .int .i64 a, .int .i64 b, .int .i64 c, .int .i64 d, .int .i64 e, .int .i64 f]
  r : Blk W gr 104 #[.string F.wd, .int .i64 (F.a : Int), .int .i64 (F.b : Int), .int .i64 (F.more : Int), .bool F.opts]
  below : Below w.heap.size w W
theorem LnX.next {w W W' : World} {g0 gr k : Nat} {a b c d e f : Int} {vn vs : Value} {F : ShapeR} (h : LnX w g0 gr k a b c d e f vn vs F W) (hb : Below W.heap.size W W') : LnX w g0 gr k a b c d e f vn vs F W' :=
  ⟨h.s.below hb h.s.lt, h.r.below hb h.r.lt, h.below.trans (hb.mono h.below.size)⟩
theorem sizeS_mem : ∀ {ss : List ByteArray} {x : ByteArray}, x ∈ ss → x.size ≤ sizeS ss
  | y :: r, x, h => by
    show _ ≤ y.size + 1 + sizeS r
    rcases List.mem_cons.1 h with rfl | h
    · omega
    · have := sizeS_mem h; omega
theorem sizeS_len : ∀ ss : List ByteArray, ss.length ≤ sizeS ss
  | [] => Nat.le_refl _
  | y :: r => by
    show r.length + 1 ≤ y.size + 1 + sizeS r
    have := sizeS_len r; omega
/-- The line so far: what stands ahead, and so many texts. -/
def lnS (T : ByteArray) (ss : List ByteArray) (j : Nat) : ByteArray := ⟨(T.data.toList ++ spaced ((List.range j).map (txtS ss))).toArray⟩
theorem lnS_zero (T : ByteArray) (ss : List ByteArray) : lnS T ss 0 = T := by
  apply bs_eq
  unfold lnS
  simp [spaced]
theorem lnS_next (T : ByteArray) (ss : List ByteArray) (j : Nat) : lnS T ss (j + 1) = lnS T ss j ++ ⟨#[32]⟩ ++ escS (ss.getD j ⟨#[]⟩) := by
  apply bs_eq
  unfold lnS
  simp only [ByteArray.data_append, Array.toList_append]
  rw [List.range_succ, List.map_append]
  unfold spaced txtS
  simp
theorem getD_size (ss : List ByteArray) (j : Nat) : (ss.getD j ⟨#[]⟩).size ≤ sizeS ss := by
  rw [List.getD_eq_getElem?_getD]
  cases h : ss[j]? with
  | none => exact Nat.zero_le _
  | some x => exact sizeS_mem (List.mem_of_getElem? h)
theorem lnS_size (T : ByteArray) (ss : List ByteArray) (h : sizeS ss ≤ 1048576) : ∀ j, (lnS T ss j).size ≤ T.size + 3145730 * j
  | 0 => by rw [lnS_zero]; omega
  | j + 1 => by
    have ih := lnS_size T ss h j
    have h1 := getD_size ss j
    have h2 := escS_size (ss.getD j ⟨#[]⟩)
    rw [lnS_next, ByteArray.size_append, ByteArray.size_append]
    have e1 : (⟨#[32]⟩ : ByteArray).size = 1 := rfl
    omega
theorem line_eq (F : ShapeR) (k : Int) (a b c d e f : Int) (ns L : List Int) (ss : List ByteArray) (N0 N1 N2 : Nat) (hL : (if F.opts = true then [a, b, c, d, e, f] else ns) = L) (hN0 : (if F.opts = true then 6 else F.a) = N0)
    (hN1 : (if F.more = 1 ∧ N0 < L.length then L.length else N0) = N1) (hN2 : (if F.more = 2 ∧ F.b < ss.length then ss.length else F.b) = N2) :
    lnS (lnT F.wd L N1) ss N2 ++ ⟨#[10]⟩ = ⟨(joinSp (wordsD F ⟨k, [a, b, c, d, e, f], ns, ss⟩) ++ [10]).toArray⟩ := by
  apply bs_eq
  rw [ByteArray.data_append, Array.toList_append]
  unfold wordsD
  rw [joinSp_cons]
  have hs : cntS F ⟨k, [a, b, c, d, e, f], ns, ss⟩ = N2 := hN2
  rw [hs]
  have hsp : ∀ x y : List ByteArray, spaced (x ++ y) = spaced x ++ spaced y := fun x y => List.flatMap_append
  rw [hsp]
  have hn : (List.range N1).map (numS L) = if F.opts = true then [a, b, c, d, e, f].map decS else (List.range (cntN F ⟨k, [a, b, c, d, e, f], ns, ss⟩)).map (numS ns) := by
    by_cases ho : F.opts = true
    · rw [if_pos ho] at hL hN0 ⊢
      subst hL; subst hN0
      have h6 : N1 = 6 := by rw [← hN1]; simp
      subst h6
      rfl
    · rw [if_neg ho] at hL hN0 ⊢
      subst hL; subst hN0
      have hc : cntN F ⟨k, [a, b, c, d, e, f], ns, ss⟩ = N1 := hN1
      rw [hc]
  rw [← hn]
  unfold lnS lnT
  simp
set_option maxRecDepth 100000 in
set_option maxHeartbeats 2000000 in
theorem rword_any (k j : Nat) (a b c d e f : Int) (A : Option Addr) (m cA : Nat) (vs : Value) (ss : List ByteArray) (w : World) (hS : StrsAt w vs ss) :
    Calls Try.prog 61 #[.agg #[.int .i64 (k : Int), .slice A m cA, vs, .int .i64 a, .int .i64 b, .int .i64 c, .int .i64 d, .int .i64 e, .int .i64 f], .int .i64 (j : Int)] w fun e' w' => e' = .returned (.string (ss.getD j ⟨#[]⟩)) ∧ Below w.heap.size w w' := by
  obtain ⟨B, cB, rfl, he⟩ := hS
  have hb0 : Below w.heap.size w (w.alloc (.cells #[.int .i64 (k : Int), .slice A m cA, .slice B ss.length cB, .int .i64 a, .int .i64 b, .int .i64 c, .int .i64 d, .int .i64 e, .int .i64 f] 52)) := (Below.refl _ _).alloc (Nat.le_refl _) _
  have HB := hide hb0; clear hb0
  have t0 : (0 : Int) ≤ (j : Int) := by omega
  rcases Nat.lt_or_ge j ss.length with hlt | hge
  · obtain ⟨p, rfl, hc⟩ := he j hlt
    have hc2 : (w.alloc (.cells #[.int .i64 (k : Int), .slice A m cA, .slice (some p) ss.length cB, .int .i64 a, .int .i64 b, .int .i64 c, .int .i64 d, .int .i64 e, .int .i64 f] 52)).cell? (p.add j) = some (.string ss[j]) := (World.cell?_alloc_lt w _ _ (World.block_lt_of_cell? w _ hc)).trans hc
    have hgd : ss.getD j ⟨#[]⟩ = ss[j] := by rw [List.getD_eq_getElem?_getD, List.getElem?_eq_getElem hlt]; rfl
    have t1 : (j : Int) < (ss.length : Int) := by omega
    rw [hgd]
    clear he hc hgd
    generalize ss[j] = x at *
    go_enter Try.func61, Try.ntmps61
    go_wp2_with fail
    go_ret
    exact ⟨rfl, unhide HB⟩
  · have hgd : ss.getD j ⟨#[]⟩ = ⟨#[]⟩ := by rw [List.getD_eq_getElem?_getD, List.getElem?_eq_none hge]; rfl
    have t1 : ¬ (j : Int) < (ss.length : Int) := by omega
    rw [hgd]
    clear he hgd
    go_enter Try.func61, Try.ntmps61
    go_wp2_with fail
    go_ret
    exact ⟨rfl, unhide HB⟩
set_option maxRecDepth 100000 in
set_option maxHeartbeats 2000000 in
theorem rline_any (k : Nat) (a b c d e f : Int) (vn vs : Value) (ns : List Int) (ss : List ByteArray) (w : World) (hk1 : 1 ≤ k) (hk2 : k ≤ 34) (hN : IntsAt w vn ns) (hS : StrsAt w vs ss) (hns : ∀ n ∈ ns, In64 n) (hop : ∀ n ∈ [a, b, c, d, e, f], In64 n) (hnz : ns.length ≤ 1099511627776) (hsz : sizeS ss ≤ 1048576) :
    Calls Try.prog 31 #[.agg #[.int .i64 (k : Int), vn, vs, .int .i64 a, .int .i64 b, .int .i64 c, .int .i64 d, .int .i64 e, .int .i64 f]] w fun e' w' => e' = .returned (.string ⟨(joinSp (wordsD (shapeAt k) ⟨k, [a, b, c, d, e, f], ns, ss⟩) ++ [10]).toArray⟩) ∧ Below w.heap.size w w' := by
  obtain ⟨A, cA, rfl, -⟩ := id hN
  obtain ⟨B, cB, rfl, -⟩ := id hS
  have HNS := hide (And.intro hN hS); clear hN hS
  go_enter Try.func31, Try.ntmps31
  go_wp2_with fail
  have hb0 : Below w.heap.size w (w.alloc (.cells #[.int .i64 (k : Int), .slice A ns.length cA, .slice B ss.length cB, .int .i64 a, .int .i64 b, .int .i64 c, .int .i64 d, .int .i64 e, .int .i64 f] 52)) := (Below.refl _ _).alloc (Nat.le_refl _) _
  have hB0 := Blk.new w 52 #[.int .i64 (k : Int), .slice A ns.length cA, .slice B ss.length cB, .int .i64 a, .int .i64 b, .int .i64 c, .int .i64 d, .int .i64 e, .int .i64 f]
  have hrow := fun W => row_any k W hk1 hk2
  have hsh := shapeAt_all ⟨k, by omega⟩
  have hFa := shapeAt_small ⟨k, by omega⟩
  simp only at hsh hFa
  obtain ⟨F, hF⟩ : ∃ F, Hid (shapeAt k = F) := ⟨_, Lib.hid rfl⟩
  rw [hF.out] at hrow hsh hFa
  generalize w.alloc (.cells #[.int .i64 (k : Int), .slice A ns.length cA, .slice B ss.length cB, .int .i64 a, .int .i64 b, .int .i64 c, .int .i64 d, .int .i64 e, .int .i64 f] 52) = w0 at *
  generalize hg0 : w.heap.size = g0 at *
  refine (hrow w0).mono ?_
  rintro e1 w1 ⟨rfl, hb1⟩
  unfold rowV
  have hB1 := hB0.below hb1 hB0.lt
  have hw1 : Below g0 w w1 := hb0.trans (hb1.mono (by have := hb0.size; omega))
  have hR := Blk.new w1 104 #[.string F.wd, .int .i64 (F.a : Int), .int .i64 (F.b : Int), .int .i64 (F.more : Int), .bool F.opts]
  have hB2 := hB1.alloc (.cells #[.string F.wd, .int .i64 (F.a : Int), .int .i64 (F.b : Int), .int .i64 (F.more : Int), .bool F.opts] 104)
  have hw2 := hw1.alloc (by have := hw1.size; omega) (.cells #[.string F.wd, .int .i64 (F.a : Int), .int .i64 (F.b : Int), .int .i64 (F.more : Int), .bool F.opts] 104)
  have k1 := hB2.cell 1; have k2 := hB2.cell 2; have k3 := hB2.cell 3; have k4 := hB2.cell 4; have k5 := hB2.cell 5; have k6 := hB2.cell 6; have k7 := hB2.cell 7; have k8 := hB2.cell 8
  simp only [List.getElem?_toArray, List.getElem?_cons_zero, List.getElem?_cons_succ] at k1 k2 k3 k4 k5 k6 k7 k8
  have H2 := hide (And.intro hw2 (And.intro hB2 hR)); have HSH := hide hsh; clear hb0 hB0 hB1 hw1 hw2 hR hB2 hb1 hrow hsh
  go_upto_if 21 with fail
  generalize (w1.alloc (.cells #[.string F.wd, .int .i64 (F.a : Int), .int .i64 (F.b : Int), .int .i64 (F.more : Int), .bool F.opts] 104)) = w2 at *
  generalize w1.heap.size = gr at *
  go_cut [5, 6] (fun s5 s6 wx => s5 = .int .i64 ((if F.opts = true then 6 else F.a : Nat) : Int) ∧ IntsAt wx s6 (if F.opts = true then [a, b, c, d, e, f] else ns) ∧ LnX w g0 gr k a b c d e f (.slice A ns.length cA) (.slice B ss.length cB) F wx)
  case first =>
    cases hop : F.opts with
    | false =>
      have hX2 : LnX w g0 gr k a b c d e f (.slice A ns.length cA) (.slice B ss.length cB) F w2 := ⟨(unhide H2).2.1, (unhide H2).2.2, by rw [hg0]; exact (unhide H2).1⟩
      have hI2 : IntsAt w2 (.slice A ns.length cA) ns := (unhide HNS).1.below hX2.below
      have HX := hide (And.intro hI2 hX2); clear hI2 hX2 H2
      go_wp2_with fail
      go_meet
      case rel => exact ⟨by simp [hop], by simp only [hop]; exact (unhide HX).1, (unhide HX).2⟩
    | true =>
      have hX2 : LnX w g0 gr k a b c d e f (.slice A ns.length cA) (.slice B ss.length cB) F w2 := ⟨(unhide H2).2.1, (unhide H2).2.2, by rw [hg0]; exact (unhide H2).1⟩
      have HX := hide hX2; clear hX2 H2
      go_wp2_with fail
      refine (ropts_any a b c d e f w2).mono ?_
      rintro e3 w3 ⟨v3, rfl, hI3, hb3⟩
      obtain ⟨A3, c3, rfl, -⟩ := id hI3
      have HY := hide (And.intro hI3 ((unhide HX).next hb3)); clear hI3 hb3 HX
      go_wp2_with fail
      go_meet
      case rel => exact ⟨by simp [hop], by simp only [hop]; exact (unhide HY).1, (unhide HY).2⟩
  case rest =>
    obtain ⟨rfl, hI, hX⟩ := hcut
    clear k1 k2 k3 k4 k5 k6 k7 k8 H2
    have hL64 : ∀ n ∈ (if F.opts = true then [a, b, c, d, e, f] else ns), In64 n := fun n hn => by
      split at hn
      · exact hop n hn
      · exact hns n hn
    have hLz : (if F.opts = true then [a, b, c, d, e, f] else ns).length ≤ 1099511627776 := by
      split
      · simp
      · exact hnz
    have hN0z : (if F.opts = true then 6 else F.a) ≤ 6 := by have := hFa.2.1; split <;> omega
    generalize hL : (if F.opts = true then [a, b, c, d, e, f] else ns) = L at *
    generalize hN0 : (if F.opts = true then 6 else F.a) = N0 at *
    obtain ⟨AL, cL, rfl, -⟩ := id hI
    have r3 := hX.r.cell 3
    simp only [List.getElem?_toArray, List.getElem?_cons_zero, List.getElem?_cons_succ] at r3
    have HX := hide (And.intro hI hX); clear hI hX
    obtain ⟨wv, hwv⟩ : ∃ wv : World, wv = wc := ⟨_, rfl⟩
    go_upto_region 8 with fail
    go_cut [33] (fun s33 wx => s33 = .bool (decide (F.more = 1 ∧ N0 < L.length)) ∧ wx = wv)
    case first =>
      by_cases hm : F.more = 1
      · have hm1 : ((F.more : Int) == 1) = true := by rw [beq_iff_eq]; omega
        by_cases hl : N0 < L.length
        · have hl1 : (N0 : Int) < (L.length : Int) := by omega
          go_wp2_with fail
          go_meet
          case rel => exact ⟨by simp [hm, hl], hwv.symm⟩
        · have hl1 : ¬ (N0 : Int) < (L.length : Int) := by omega
          go_wp2_with fail
          go_meet
          case rel => exact ⟨by simp [hm, hl], hwv.symm⟩
      · have hm1 : ((F.more : Int) == 1) = false := by rw [beq_eq_false_iff_ne]; omega
        go_wp2_with fail
        go_meet
        case rel => exact ⟨by simp [hm], hwv.symm⟩
    case rest =>
      obtain ⟨rfl, hw33⟩ := hcut
      rw [hwv] at hw33
      subst hw33
      clear hwv r3
      go_upto_if 33 with fail
      go_cut [5] (fun s5 wx => s5 = .int .i64 ((if F.more = 1 ∧ N0 < L.length then L.length else N0 : Nat) : Int) ∧ wx = wc)
      case first =>
        by_cases hd : F.more = 1 ∧ N0 < L.length
        · rw [decide_eq_true hd]
          go_wp2_with fail
          go_meet
          case rel => exact ⟨by rw [if_pos hd], rfl⟩
        · rw [decide_eq_false hd]
          go_wp2_with fail
          go_meet
          case rel => exact ⟨by rw [if_neg hd], rfl⟩
      case rest =>
        obtain ⟨rfl, hwc⟩ := hcut
        subst hwc
        have hN1z : (if F.more = 1 ∧ N0 < L.length then L.length else N0) ≤ 1099511627776 := by split <;> omega
        generalize hN1 : (if F.more = 1 ∧ N0 < L.length then L.length else N0) = N1 at *
        go_upto_block 0 with fail
        go_cut [4] (fun s4 wx => s4 = .string (lnT F.wd L N1) ∧ wx = wc)
        case first =>
          have h0 := Lib.hid (lnT_zero F.wd L)
          obtain ⟨wv, hwv⟩ : ∃ wv : World, wv = wc := ⟨_, rfl⟩
          go_wp2_with fail
          go_loopw [4, 7, 8] (fun s i _ W => ∃ j : Nat, j ≤ N1 ∧ i = .int .i64 (j : Int) ∧ s = .string (lnT F.wd L j) ∧ W = wv) (fun _ i _ _ => N1 - (RowKit.intOf i).toNat)
          case atStart => exact ⟨0, by omega, rfl, by rw [h0.out], hwv.symm⟩
          case round =>
            obtain ⟨j, hj, rfl, rfl, hW⟩ := hrel
            have hWc := Lib.hid (hW.trans hwv)
            have hWv := Lib.hid hW
            clear h0 hwv hW
            rcases Nat.lt_or_ge j N1 with hlt | hge
            · have t1 : (j : Int) < (N1 : Int) := by omega
              have t0 : (0 : Int) ≤ (j : Int) := by omega
              by_cases hjl : j < L.length
              · have t2 : (j : Int) < (L.length : Int) := by omega
                obtain ⟨ad, rfl, hca⟩ : ∃ ad, AL = some ad ∧ wr.cell? (ad.add j) = some (.int .i64 L[j]) := by
                  obtain ⟨A', c', hv, he⟩ := (unhide HX).1
                  injection hv with e1 e2 e3
                  subst e1
                  rw [hWc.out]
                  exact he j hjl
                have hv : In64 L[j] := hL64 _ (List.getElem_mem hjl)
                have hgd : L.getD j 0 = L[j] := by rw [List.getD_eq_getElem?_getD, List.getElem?_eq_getElem hjl]; rfl
                have htz := lnT_size F.wd L hL64 j
                have e1 : (⟨#[32]⟩ : ByteArray).size = 1 := rfl
                have y1 : ¬ 9223372036854775807 < (lnT F.wd L j).size + 1 := by omega
                have hd := fun W => rdec_any L[j] W hv.1 hv.2
                have HD := hide hd; clear hd
                go_wp2_with fail
                refine ((unhide HD) _).mono ?_
                rintro e5 w5 ⟨rfl, rfl⟩
                obtain ⟨D, hD⟩ : ∃ D, Hid (decS L[j] = D) := ⟨_, Lib.hid rfl⟩
                have hDz : D.size ≤ 20 := by rw [← hD.out]; exact decS_size hv
                have hnx : Hid (lnT F.wd L (j + 1) = lnT F.wd L j ++ ⟨#[32]⟩ ++ D) := by rw [Hid, lnT_next, hgd, hD.out]
                rw [hD.out]
                obtain ⟨T, hT⟩ : ∃ T, Hid (lnT F.wd L j = T) := ⟨_, Lib.hid rfl⟩
                rw [hT.out] at hnx htz ⊢
                have y2 : ¬ 9223372036854775807 < T.size + 1 + D.size := by omega
                go_wp2_with fail
                exact ⟨⟨j + 1, by omega, by go_num, by rw [hnx.out], hWv.out⟩, by simp [RowKit.intOf]; omega⟩
              · have t2 : ¬ (j : Int) < (L.length : Int) := by omega
                have hgd : L.getD j 0 = 0 := by rw [List.getD_eq_getElem?_getD, List.getElem?_eq_none (by omega)]; rfl
                have htz := lnT_size F.wd L hL64 j
                have e1 : (⟨#[32]⟩ : ByteArray).size = 1 := rfl
                have y1 : ¬ 9223372036854775807 < (lnT F.wd L j).size + 1 := by omega
                have hd := fun W => rdec_any 0 W (by decide) (by decide)
                have HD := hide hd; clear hd
                go_wp2_with fail
                refine ((unhide HD) _).mono ?_
                rintro e5 w5 ⟨rfl, rfl⟩
                obtain ⟨D, hD⟩ : ∃ D, Hid (decS 0 = D) := ⟨_, Lib.hid rfl⟩
                have hDz : D.size ≤ 20 := by rw [← hD.out]; exact decS_size ⟨by decide, by decide⟩
                have hnx : Hid (lnT F.wd L (j + 1) = lnT F.wd L j ++ ⟨#[32]⟩ ++ D) := by rw [Hid, lnT_next, hgd, hD.out]
                rw [hD.out]
                obtain ⟨T, hT⟩ : ∃ T, Hid (lnT F.wd L j = T) := ⟨_, Lib.hid rfl⟩
                rw [hT.out] at hnx htz ⊢
                have y2 : ¬ 9223372036854775807 < T.size + 1 + D.size := by omega
                go_wp2_with fail
                exact ⟨⟨j + 1, by omega, by go_num, by rw [hnx.out], hWv.out⟩, by simp [RowKit.intOf]; omega⟩
            · have t1 : ¬ (j : Int) < (N1 : Int) := by omega
              obtain rfl : j = N1 := by omega
              go_wp2_with fail
              go_meet
              case rel => exact ⟨rfl, hWc.out⟩
        case rest =>
          obtain ⟨rfl, hw4⟩ := hcut
          subst hw4
          obtain ⟨T, hT⟩ : ∃ T, Hid (lnT F.wd L N1 = T) := ⟨_, Lib.hid rfl⟩
          rw [hT.out]
          have r2 := (unhide HX).2.r.cell 2; have r3 := (unhide HX).2.r.cell 3
          have s2 := (unhide HX).2.s.cell 2
          simp only [List.getElem?_toArray, List.getElem?_cons_zero, List.getElem?_cons_succ] at r2 r3 s2
          go_upto_region 18 with fail
          obtain ⟨wv, hwv⟩ : ∃ wv : World, wv = wc := ⟨_, rfl⟩
          go_cut [65] (fun s65 wx => s65 = .bool (decide (F.more = 2 ∧ F.b < ss.length)) ∧ wx = wv)
          case first =>
            by_cases hm : F.more = 2
            · have hm1 : ((F.more : Int) == 2) = true := by rw [beq_iff_eq]; omega
              by_cases hl : F.b < ss.length
              · have hl1 : (F.b : Int) < (ss.length : Int) := by omega
                go_wp2_with fail
                go_meet
                case rel => exact ⟨by simp [hm, hl], hwv.symm⟩
              · have hl1 : ¬ (F.b : Int) < (ss.length : Int) := by omega
                go_wp2_with fail
                go_meet
                case rel => exact ⟨by simp [hm, hl], hwv.symm⟩
            · have hm1 : ((F.more : Int) == 2) = false := by rw [beq_eq_false_iff_ne]; omega
              go_wp2_with fail
              go_meet
              case rel => exact ⟨by simp [hm], hwv.symm⟩
          case rest =>
            obtain ⟨rfl, hw65⟩ := hcut
            rw [hwv] at hw65
            subst hw65
            clear hwv
            go_upto_if 65 with fail
            obtain ⟨wv, hwv⟩ : ∃ wv : World, wv = wc := ⟨_, rfl⟩
            go_cut [9] (fun s9 wx => s9 = .int .i64 ((if F.more = 2 ∧ F.b < ss.length then ss.length else F.b : Nat) : Int) ∧ wx = wv)
            case first =>
              by_cases hd : F.more = 2 ∧ F.b < ss.length
              · rw [decide_eq_true hd]
                go_wp2_with fail
                go_meet
                case rel => exact ⟨by rw [if_pos hd], hwv.symm⟩
              · rw [decide_eq_false hd]
                go_wp2_with fail
                go_meet
                case rel => exact ⟨by rw [if_neg hd], hwv.symm⟩
            case rest =>
              obtain ⟨rfl, hw9⟩ := hcut
              rw [hwv] at hw9
              subst hw9
              clear hwv r2 r3 s2
              generalize hN2 : (if F.more = 2 ∧ F.b < ss.length then ss.length else F.b) = N2 at *
              have hN2z : N2 ≤ 1048578 := by have := sizeS_len ss; have := hFa.2.2; rw [← hN2]; split <;> omega
              have hTz : T.size ≤ 23089744183399 := by
                have := lnT_size F.wd L hL64 N1
                rw [hT.out] at this; have := hFa.1; omega
              have h0 := Lib.hid (lnS_zero T ss)
              have HX2 := hide (unhide HX).2
              clear HX
              go_wp2_with fail
              go_loopw [4, 10] (fun s i W => ∃ j : Nat, j ≤ N2 ∧ i = .int .i64 (j : Int) ∧ s = .string (lnS T ss j) ∧ LnX w g0 gr k a b c d e f (.slice A ns.length cA) (.slice B ss.length cB) F W) (fun _ i _ => N2 - (RowKit.intOf i).toNat)
              case atStart => exact ⟨0, by omega, rfl, by rw [h0.out], unhide HX2⟩
              case round =>
                obtain ⟨j, hj, rfl, rfl, hX⟩ := hrel
                clear h0 HX2
                rcases Nat.lt_or_ge j N2 with hlt | hge
                · have t1 : (j : Int) < (N2 : Int) := by omega
                  have k0 := hX.s.cell 0; have k1 := hX.s.cell 1; have k2 := hX.s.cell 2; have k3 := hX.s.cell 3; have k4 := hX.s.cell 4; have k5 := hX.s.cell 5; have k6 := hX.s.cell 6; have k7 := hX.s.cell 7; have k8 := hX.s.cell 8
                  simp only [List.getElem?_toArray, List.getElem?_cons_zero, List.getElem?_cons_succ] at k0 k1 k2 k3 k4 k5 k6 k7 k8
                  have hwd := rword_any k j a b c d e f A ns.length cA (.slice B ss.length cB) ss wr ((unhide HNS).2.below hX.below)
                  have hxs := getD_size ss j
                  have htz := lnS_size T ss hsz j
                  have e1 : (⟨#[32]⟩ : ByteArray).size = 1 := rfl
                  have hes := escS_size (ss.getD j ⟨#[]⟩)
                  have hnx := Lib.hid (lnS_next T ss j)
                  obtain ⟨x, hx⟩ : ∃ x, Hid (ss.getD j ⟨#[]⟩ = x) := ⟨_, Lib.hid rfl⟩
                  rw [hx.out] at hwd hxs hes hnx
                  have hesc := fun W => rescape_any x W (by omega)
                  obtain ⟨E, hE⟩ : ∃ E, Hid (escS x = E) := ⟨_, Lib.hid rfl⟩
                  rw [hE.out] at hes hnx hesc
                  obtain ⟨U, hU⟩ : ∃ U, Hid (lnS T ss j = U) := ⟨_, Lib.hid rfl⟩
                  rw [hU.out] at hnx htz ⊢
                  have y1 : ¬ 9223372036854775807 < U.size + 1 := by omega
                  have y2 : ¬ 9223372036854775807 < U.size + 1 + E.size := by omega
                  have HWD := hide hwd; have HES := hide hesc; have HX := hide hX; clear hwd hesc hX
                  go_wp2_with fail
                  refine (unhide HWD).mono ?_
                  rintro e5 w5 ⟨rfl, hb5⟩
                  have HX5 := hide ((unhide HX).next hb5); clear hb5 HX HWD
                  go_wp2_with fail
                  refine ((unhide HES) _).mono ?_
                  rintro e6 w6 ⟨rfl, hb6⟩
                  have HX6 := hide ((unhide HX5).next hb6); clear hb6 HX5 HES
                  go_wp2_with fail
                  exact ⟨⟨j + 1, by omega, by go_num, by rw [hnx.out], unhide HX6⟩, by simp [RowKit.intOf]; omega⟩
                · have t1 : ¬ (j : Int) < (N2 : Int) := by omega
                  obtain rfl : j = N2 := by omega
                  have htz := lnS_size T ss hsz j
                  obtain ⟨U, hU⟩ : ∃ U, Hid (lnS T ss j = U) := ⟨_, Lib.hid rfl⟩
                  rw [hU.out] at htz ⊢
                  have e1 : (⟨#[10]⟩ : ByteArray).size = 1 := rfl
                  have y1 : ¬ 9223372036854775807 < U.size + 1 := by omega
                  have HX := hide hX; clear hX
                  have hle := Lib.hid (line_eq F (k : Int) a b c d e f ns L ss N0 N1 j hL hN0 hN1 hN2)
                  clear hL hN0 hN1 hN2
                  go_wp2_with fail
                  go_ret
                  refine ⟨?_, by first | exact (unhide HX).below | (rw [← hg0]; exact (unhide HX).below)⟩
                  have h := hle.out
                  rw [hT.out, hU.out] at h
                  rw [hF.out, ← h]
                  rfl
end Go.Proofs.Ytaomecinemmdgaa

/-
  CONTRACT of play.step, the walk.
-/
import Derived.Test.YtaomecinemmdgaaRows
import Derived.Test.YtaomecinemmdgaaGBase
import Derived.Test.YtaomecinemmdgaaGLns
import Derived.Test.YtaomecinemmdgaaSStepS
import Derived.Test.YtaomecinemmdgaaSRStep
set_option linter.unusedVariables false
set_option linter.unusedSimpArgs false
namespace Go.Proofs.Ytaomecinemmdgaa
open Go.RowKit Go.Lib
theorem six_store {W : World} {gs : Nat} {k : Int} {vn vs : Value} (hB : Blk W gs 52 #[.int .i64 k, vn, vs, .int .i64 0, .int .i64 0, .int .i64 0, .int .i64 0, .int .i64 0, .int .i64 0]) (a b c d e f : Value) :
    Blk ((((((W.setCell ⟨gs, 3, none⟩ a).setCell ⟨gs, 4, none⟩ b).setCell ⟨gs, 5, none⟩ c).setCell ⟨gs, 6, none⟩ d).setCell ⟨gs, 7, none⟩ e).setCell ⟨gs, 8, none⟩ f) gs 52 #[.int .i64 k, vn, vs, a, b, c, d, e, f] := by
  have h := (((((hB.set_ 3 a).set_ 4 b).set_ 5 c).set_ 6 d).set_ 7 e).set_ 8 f
  simpa using h
theorem six_below {B : Nat} {w W : World} {gs : Nat} (hb : Below B w W) (hB : B ≤ gs) (a b c d e f : Value) : Below B w ((((((W.setCell ⟨gs, 3, none⟩ a).setCell ⟨gs, 4, none⟩ b).setCell ⟨gs, 5, none⟩ c).setCell ⟨gs, 6, none⟩ d).setCell ⟨gs, 7, none⟩ e).setCell ⟨gs, 8, none⟩ f) :=
  (((((hb.setCell (p := ⟨gs, 3, none⟩) hB a).setCell (p := ⟨gs, 4, none⟩) hB b).setCell (p := ⟨gs, 5, none⟩) hB c).setCell (p := ⟨gs, 6, none⟩) hB d).setCell (p := ⟨gs, 7, none⟩) hB e).setCell (p := ⟨gs, 8, none⟩) hB f
theorem six_far {w : World} {base : Nat} {ty : TypeId} {size n : Nat} {v : Value} {xs : List Value} (h : w.ownsRow base ty size v n xs) {g : Nat} (hg : g < base) (a b c d e f : Value) :
    ((((((w.setCell ⟨g, 3, none⟩ a).setCell ⟨g, 4, none⟩ b).setCell ⟨g, 5, none⟩ c).setCell ⟨g, 6, none⟩ d).setCell ⟨g, 7, none⟩ e).setCell ⟨g, 8, none⟩ f).ownsRow base ty size v n xs :=
  row_far (row_far (row_far (row_far (row_far (row_far h (p := ⟨g, 3, none⟩) hg) (p := ⟨g, 4, none⟩) hg) (p := ⟨g, 5, none⟩) hg) (p := ⟨g, 6, none⟩) hg) (p := ⟨g, 7, none⟩) hg) (p := ⟨g, 8, none⟩) hg
/-- What stands when a step is whole. -/
structure SwX (w W : World) (gs : Nat) (k : Int) (vn vs : Value) (a b c d e f : Int) (N : List Int) (T : List ByteArray) : Prop where
  s : Blk W gs 52 #[.int .i64 k, vn, vs, .int .i64 a, .int .i64 b, .int .i64 c, .int .i64 d, .int .i64 e, .int .i64 f]
  z : Blk W w.heap.size 52 #[.int .i64 0, .slice none 0 0, .slice none 0 0, .int .i64 0, .int .i64 0, .int .i64 0, .int .i64 0, .int .i64 0, .int .i64 0]
  n : OwnI W (w.heap.size + 1) vn N
  t : OwnT W (w.heap.size + 1) vs T
  b : Below w.heap.size w W
theorem SfI.whole {w W : World} {gs g6 : Nat} {k : Int} {vn vs v6 : Value} {N O : List Int} {T : List ByteArray} (h : SfI w W gs g6 k vn vs v6 N T O) : SwX w W gs k vn vs 0 0 0 0 0 0 N T :=
  ⟨h.s, h.z, row_mono h.n (by have := h.l1; have := h.l2; omega), row_mono h.t (by have := h.l1; have := h.l2; omega), h.b⟩
theorem SfI.six {w W : World} {gs g6 : Nat} {k : Int} {vn vs v6 : Value} {N O : List Int} {T : List ByteArray} (h : SfI w W gs g6 k vn vs v6 N T O) (a b c d e f : Int) :
    SwX w ((((((W.setCell ⟨gs, 3, none⟩ (.int .i64 a)).setCell ⟨gs, 4, none⟩ (.int .i64 b)).setCell ⟨gs, 5, none⟩ (.int .i64 c)).setCell ⟨gs, 6, none⟩ (.int .i64 d)).setCell ⟨gs, 7, none⟩ (.int .i64 e)).setCell ⟨gs, 8, none⟩ (.int .i64 f)) gs k vn vs a b c d e f N T :=
  ⟨six_store h.s _ _ _ _ _ _, h.z.below (six_below (Below.refl gs W) (Nat.le_refl _) _ _ _ _ _ _) h.l1, row_mono (six_far h.n (by have := h.l2; omega) _ _ _ _ _ _) (by have := h.l1; have := h.l2; omega), row_mono (six_far h.t (by have := h.l2; omega) _ _ _ _ _ _) (by have := h.l1; have := h.l2; omega), six_below h.b (by have := h.l1; omega) _ _ _ _ _ _⟩
/-- What the words leave behind. -/
def StepE (w : World) (gs g6 : Nat) (k : Int) (F : ShapeR) (ws : List ByteArray) (z : Int) (W : World) : Prop :=
  (z = 0 ∧ SfAt w gs g6 k F ws ws.length W) ∨ (z = 42 ∧ numsO (ws.take (numN F ws.length)) = none ∧ Below w.heap.size w W ∧ Blk W w.heap.size 52 #[.int .i64 0, .slice none 0 0, .slice none 0 0, .int .i64 0, .int .i64 0, .int .i64 0, .int .i64 0, .int .i64 0, .int .i64 0])
theorem SfAt.call {w W W' : World} {gs g6 : Nat} {k : Int} {F : ShapeR} {ws : List ByteArray} {i : Nat} (h : SfAt w gs g6 k F ws i W) (hb : Below W.heap.size W W') : SfAt w gs g6 k F ws i W' := by
  obtain ⟨vn, vs, v6, M, h1, h2, h3, h4⟩ := h
  exact ⟨vn, vs, v6, M, h1, h2, h3, h4.call hb⟩
theorem each_step (w W : World) (gs g6 : Nat) (k : Nat) (hk : k < 35) (F : ShapeR) (hF : shapeAt k = F) (ws : List ByteArray) (v : Value) (hS : StrsAt w v ws) (hf : fits F ws.length = true) (hz : ∀ x ∈ ws, x.size ≤ 1099511627776) (hn : ws.length ≤ 1099511627776) (h : SfAt w gs g6 (k : Int) F ws 0 W) :
    Calls Try.prog 70 #[.agg #[.string F.wd, .string (wantsS F)], v, .func (.func 71) #[] #[.pointer (some ⟨gs, 0, none⟩), .pointer (some ⟨g6, 0, none⟩)]] W fun e w' => ∃ z : Int, e = .returned (.int .i64 z) ∧ StepE w gs g6 (k : Int) F ws z w' := by
  subst hF
  have hb : ∀ i wi, SfAt w gs g6 (k : Int) (shapeAt k) ws i wi → StrsAt wi v ws := fun i wi hi => by
    obtain ⟨vn, vs, v6, M, h1, h2, h3, h4⟩ := hi
    exact hS.below h4.b
  refine eachW_inv 71 _ (shapeAt k) v ws (fun i wi => SfAt w gs g6 (k : Int) (shapeAt k) ws i wi) (fun z wi => StepE w gs g6 (k : Int) (shapeAt k) ws z wi) W stepF_enters (hb 0 W h) (wants_len ⟨k, hk⟩) hn ?_ (fun _ W => rep6 W) (fun w0 hb0 => h.call hb0) hb (fun i wi hi hX => (sf_step w wi gs g6 k hk ws i hi hf hz hn hX).mono ?_) (fun wi hX => .inl ⟨rfl, hX⟩)
  · intro h0 he
    rw [← cnt_fits k hk, he, cntF, beq_iff_eq] at hf
    omega
  · rintro e w' ⟨z, rfl, h1, h2⟩
    exact ⟨z, rfl, h1, fun hz => .inr (h2 hz)⟩
set_option maxRecDepth 100000 in
set_option maxHeartbeats 4000000 in
theorem step_any (v : Value) (b0 : Nat) (ws : List ByteArray) (w : World) (hO : OwnT w b0 v ws) (hne : ws ≠ []) (hz : ∀ x ∈ ws, x.size ≤ 1099511627776) (hn : ws.length ≤ 1099511627776) :
    Calls Try.prog 45 #[v] w fun e w' => StepV w' w.heap.size (stepO ws) e ∧ Below w.heap.size w w' := by
  obtain ⟨gw, cap, rfl, -, hgw, hcap⟩ : ∃ g cap, v = .slice (some ⟨g, 0, none⟩) ws.length cap ∧ b0 ≤ g ∧ g < w.heap.size ∧ ws.length ≤ cap := by
    rcases hO.form with ⟨_, he⟩ | h
    · exact absurd he hne
    · exact h
  have hlen : 0 < ws.length := List.length_pos_iff.2 hne
  have hS := ownT_strs hO
  have hc0 : w.cell? ⟨gw, 0, none⟩ = some (.string (ws.headD ⟨#[]⟩)) := by
    obtain ⟨a, ha, h⟩ := strs_at hS 0 hlen
    injection ha with ha
    subst ha
    rw [show ((⟨gw, 0, none⟩ : Addr).add 0) = ⟨gw, 0, none⟩ from rfl] at h
    rw [h]
    cases ws with
    | nil => exact absurd rfl hne
    | cons x r => rfl
  obtain ⟨k, hk⟩ : ∃ k, Hid (kindP (ws.headD ⟨#[]⟩) = k) := ⟨_, Lib.hid rfl⟩
  have hk34 : k ≤ 34 := by rw [← hk.out]; exact kindP_le _
  have hkd := fun W => named_any (ws.headD ⟨#[]⟩) W
  rw [hk.out] at hkd
  obtain ⟨x0, hx0⟩ : ∃ x, Hid (ws.headD ⟨#[]⟩ = x) := ⟨_, Lib.hid rfl⟩
  rw [hx0.out] at hc0 hkd
  have HS := hide (And.intro hS hz); have HK := hide hkd; clear hS hz hkd hO hne
  have t1 : (0 : Int) < (ws.length : Int) := by omega
  have hk0 : (0 : Int) ≤ (k : Int) := by omega
  have hbA : Below w.heap.size w (w.alloc (.cells #[.int .i64 0, .slice none 0 0, .slice none 0 0, .int .i64 0, .int .i64 0, .int .i64 0, .int .i64 0, .int .i64 0, .int .i64 0] 52)) := (Below.refl _ _).alloc (Nat.le_refl _) _
  have c0 := (hbA.cell (p := ⟨gw, 0, none⟩) hgw).trans hc0
  have hB0 := Blk.new w 52 #[.int .i64 0, .slice none 0 0, .slice none 0 0, .int .i64 0, .int .i64 0, .int .i64 0, .int .i64 0, .int .i64 0, .int .i64 0]
  have H0 := hide (And.intro hB0 hbA); clear hB0 hbA hc0
  go_enter Try.func45, Try.ntmps45
  go_wp2_with fail
  refine ((unhide HK) _).mono ?_
  rintro e1 w1 ⟨rfl, hb1⟩
  have hB1 := (unhide H0).1.below hb1 (unhide H0).1.lt
  have hb2 := (unhide H0).2.trans (hb1.mono (unhide H0).2.size)
  have H1 := hide (And.intro hB1 hb2); clear hb1 hB1 hb2 HK c0 H0
  have f0 := (unhide H1).1.frozen 0; have f1 := (unhide H1).1.frozen 1; have f2 := (unhide H1).1.frozen 2; have f3 := (unhide H1).1.frozen 3; have f4 := (unhide H1).1.frozen 4; have f5 := (unhide H1).1.frozen 5; have f6 := (unhide H1).1.frozen 6; have f7 := (unhide H1).1.frozen 7; have f8 := (unhide H1).1.frozen 8
  have k0 := (unhide H1).1.cell 0; have k1 := (unhide H1).1.cell 1; have k2 := (unhide H1).1.cell 2; have k3 := (unhide H1).1.cell 3; have k4 := (unhide H1).1.cell 4; have k5 := (unhide H1).1.cell 5; have k6 := (unhide H1).1.cell 6; have k7 := (unhide H1).1.cell 7; have k8 := (unhide H1).1.cell 8
  simp only [List.getElem?_toArray, List.getElem?_cons_zero, List.getElem?_cons_succ] at k0 k1 k2 k3 k4 k5 k6 k7 k8
  by_cases hkz : k = 0
  · have hr := Lib.hid (stepO_0 (ws := ws) (by rw [hk.out, hkz]))
    have q1 : ((k : Int) == 0) = true := by rw [beq_iff_eq]; omega
    have q2 : (k : Int) = 0 := by omega
    clear hkz
    go_wp2_with fail
    refine bodyPost_ret (results_step rfl _ _ w.heap.size _ rfl rfl (blk9_store (unhide H1).1 _ _ _ _ _ _ _ _ _)) rfl ?_
    exact ⟨by rw [hr.out]; rfl, below9 (unhide H1).2 (Nat.le_refl _) _ _ _ _ _ _ _ _ _⟩
  · have q1 : ((k : Int) == 0) = false := by rw [beq_eq_false_iff_ne]; omega
    have q2 : ¬ (k : Int) = 0 := by omega
    clear f0 f1 f2 f3 f4 f5 f6 f7 f8 k0 k1 k2 k3 k4 k5 k6 k7 k8
    have hsh := fun W => shapes_any W
    have hix := fun W => shapes_index W k (by omega)
    obtain ⟨h, hh⟩ : ∃ h, ws.length = h + 1 := ⟨ws.length - 1, by omega⟩
    have hsub : (ws.length : Int) - 1 = (h : Int) := by omega
    have hhm : Hid (ws.length - 1 = h) := Lib.hid (by omega)
    have HH := Lib.hid hh
    have hct := fun W => counted_any k (h : Int) W (by omega) (by omega) (by omega)
    have hcf := cnt_fits k (by omega) h
    obtain ⟨C, hC⟩ : ∃ C, Hid (shapesC.toArray = C) := ⟨_, Lib.hid rfl⟩
    rw [hC.out] at hsh hix
    simp only [hcf] at hct
    have hnx := fun (i : Nat) wi hi hf hz hn hX => sf_step w wi w1.heap.size (w1.heap.size + 1) k (by omega) (ws.drop 1) i hi hf hz hn hX
    clear hnx
    obtain ⟨F, hF⟩ : ∃ F, Hid (shapeAt k = F) := ⟨_, Lib.hid rfl⟩
    rw [hF.out] at hix hct hcf
    have HSH := hide hsh; have HCT := hide hct; clear hsh hct hcf hh
    go_wp2_with fail
    refine ((unhide HSH) _).mono ?_
    rintro e2 w2 ⟨rfl, hb2⟩
    have H2 := hide (And.intro ((unhide H1).1.below hb2 (unhide H1).1.lt) ((unhide H1).2.trans (hb2.mono (unhide H1).2.size))); clear hb2 H1
    go_wp2_with fail
    refine ((unhide HCT) _).mono ?_
    rintro e3 w3 ⟨rfl, hb3⟩
    have H3 := hide (And.intro ((unhide H2).1.below hb3 (unhide H2).1.lt) ((unhide H2).2.trans (hb3.mono (unhide H2).2.size))); clear hb3 H2 HCT
    cases hfit : fits F h with
    | false =>
      have hr := Lib.hid (stepO_1 (ws := ws) hk.out hkz (by rw [hF.out, hhm.out]; exact hfit))
      have f0 := (unhide H3).1.frozen 0; have f1 := (unhide H3).1.frozen 1; have f2 := (unhide H3).1.frozen 2; have f3 := (unhide H3).1.frozen 3; have f4 := (unhide H3).1.frozen 4; have f5 := (unhide H3).1.frozen 5; have f6 := (unhide H3).1.frozen 6; have f7 := (unhide H3).1.frozen 7; have f8 := (unhide H3).1.frozen 8
      have k0 := (unhide H3).1.cell 0; have k1 := (unhide H3).1.cell 1; have k2 := (unhide H3).1.cell 2; have k3 := (unhide H3).1.cell 3; have k4 := (unhide H3).1.cell 4; have k5 := (unhide H3).1.cell 5; have k6 := (unhide H3).1.cell 6; have k7 := (unhide H3).1.cell 7; have k8 := (unhide H3).1.cell 8
      simp only [List.getElem?_toArray, List.getElem?_cons_zero, List.getElem?_cons_succ] at k0 k1 k2 k3 k4 k5 k6 k7 k8
      go_wp2_with fail
      refine bodyPost_ret (results_step rfl _ _ w.heap.size _ rfl rfl (blk9_store (unhide H3).1 _ _ _ _ _ _ _ _ _)) rfl ?_
      exact ⟨by rw [hr.out]; rfl, below9 (unhide H3).2 (Nat.le_refl _) _ _ _ _ _ _ _ _ _⟩
    | true =>
      have hdl : (ws.drop 1).length = h := by rw [List.length_drop]; exact hhm.out
      have hlt3 := (unhide H3).1.lt
      have hX0 : SfAt w w3.heap.size (w3.heap.size + 1) (k : Int) F (ws.drop 1) 0 ((w3.alloc (.cells #[.int .i64 (k : Int), .slice none 0 0, .slice none 0 0, .int .i64 0, .int .i64 0, .int .i64 0, .int .i64 0, .int .i64 0, .int .i64 0] 52)).alloc (.cells #[.slice none 0 0] 27)) := by
        refine ⟨.slice none 0 0, .slice none 0 0, .slice none 0 0, [], ?_, fun _ => rfl, fun _ => rfl, ⟨(Blk.new w3 _ _).alloc _, ?_, ((unhide H3).1.alloc _).alloc _, ?_, ?_, ?_, ((unhide H3).2.alloc (unhide H3).2.size _).alloc (by have := (unhide H3).2.size; simp; omega) _, hlt3, Nat.lt_succ_self _⟩⟩
        · rw [Nat.zero_min, List.take_zero]; rfl
        · have h := Blk.new (w3.alloc (.cells #[.int .i64 (k : Int), .slice none 0 0, .slice none 0 0, .int .i64 0, .int .i64 0, .int .i64 0, .int .i64 0, .int .i64 0, .int .i64 0] 52)) 27 #[.slice none 0 0]
          rwa [show (w3.alloc (.cells #[.int .i64 (k : Int), .slice none 0 0, .slice none 0 0, .int .i64 0, .int .i64 0, .int .i64 0, .int .i64 0, .int .i64 0, .int .i64 0] 52)).heap.size = w3.heap.size + 1 from by simp] at h
        · split <;> exact World.ownsRow_nil _ _ _ _
        · split <;> exact World.ownsRow_nil _ _ _ _
        · rw [Nat.zero_sub, List.take_zero]; exact World.ownsRow_nil _ _ _ _
      have hbz : w.heap.size ≤ w3.heap.size := (unhide H3).2.size
      have HX := hide hX0; clear hX0 hlt3
      have hsl : ∃ vw, vw = (if cap = 1 then Value.slice (some ⟨gw, 0, none⟩) h 0 else .slice (some ⟨gw, 1, none⟩) h (cap - 1)) ∧ StrsAt w vw (ws.drop 1) := by
        refine ⟨_, rfl, ?_⟩
        have hd : (ws.drop 1).take h = ws.drop 1 := List.take_of_length_le (by omega)
        split
        · have := zero_strs (w := w) (A := some ⟨gw, 0, none⟩) (n := h) (c := 0) (ws := ws) (by have := HH.out; omega)
          rwa [hd] at this
        · have := sub_strs (n := h) (c := cap - 1) (unhide HS).1 (by have := HH.out; omega)
          rwa [hd] at this
      obtain ⟨vw, hvw, hSw⟩ := hsl
      have heach := fun W hX => each_step w W w3.heap.size (w3.heap.size + 1) k (by omega) F hF.out (ws.drop 1) vw hSw (by rw [hdl]; exact hfit) (fun x hx => (unhide HS).2 x (List.mem_of_mem_drop hx)) (by omega) hX
      have hres : Hid (∀ z W, StepE w w3.heap.size (w3.heap.size + 1) (k : Int) F (ws.drop 1) z W → StepE w w3.heap.size (w3.heap.size + 1) (k : Int) F (ws.drop 1) z W) := Lib.hid (fun z W h => h)
      have HE := hide heach; clear heach hSw hres
      have u1 : (1 : Int) ≤ (ws.length : Int) := by omega
      have u2 : (ws.length : Int) ≤ (cap : Int) := by omega
      go_wp2_with fail
      generalize ((w3.alloc (.cells #[.int .i64 (k : Int), .slice none 0 0, .slice none 0 0, .int .i64 0, .int .i64 0, .int .i64 0, .int .i64 0, .int .i64 0, .int .i64 0] 52)).alloc (.cells #[.slice none 0 0] 27)) = wb at *
      generalize w3.heap.size = gs at *
      go_cut [7] (fun s7 wx => ∃ z : Int, s7 = .int .i64 z ∧ StepE w gs (gs + 1) (k : Int) F (ws.drop 1) z wx)
      case first =>
        by_cases hcap1 : cap = 1
        · rw [if_pos hcap1] at hvw
          subst hvw
          subst hcap1
          have hhn : ws.length - 1 = h := hhm.out
          go_region_held3 (fun _ => True) (trivial) (first
            | (go_at_call 26; refine ((unhide HSH) _).mono ?_; rintro e5 w5 ⟨rfl, hb5⟩; have HB5 := hide (((Below.refl wb.heap.size wb).drew).trans hb5); clear hb5)
            | (go_at_call 70; refine ((unhide HE) _ ((unhide HX).call (unhide HB5))).mono ?_; rintro e6 w6 ⟨z, rfl, hR⟩; have H6 := hide hR; clear hR))
          all_goals
            clear hhn
            go_wp2_with fail
            go_meet
            case rel => exact ⟨z, rfl, unhide H6⟩
        · rw [if_neg hcap1] at hvw
          subst hvw
          have hhn : ws.length - 1 = h := hhm.out
          have hcap2 : 1 < cap := by omega
          go_region_held3 (fun _ => True) (trivial) (first
            | (go_at_call 26; refine ((unhide HSH) _).mono ?_; rintro e5 w5 ⟨rfl, hb5⟩; have HB5 := hide (((Below.refl wb.heap.size wb).drew).trans hb5); clear hb5)
            | (go_at_call 70; refine ((unhide HE) _ ((unhide HX).call (unhide HB5))).mono ?_; rintro e6 w6 ⟨z, rfl, hR⟩; have H6 := hide hR; clear hR))
          all_goals
            clear hhn
            go_wp2_with fail
            go_meet
            case rel => exact ⟨z, rfl, unhide H6⟩
      case rest =>
        obtain ⟨z, rfl, hR⟩ := hcut
        rcases hR with ⟨rfl, hA⟩ | ⟨rfl, hN, hb, hB⟩
        · obtain ⟨vn, vs, v6, M, hM, ho1, ho2, hX⟩ := hA
          rw [hdl] at hM hX
          have hnh : numN F h ≤ h := by
            have hf := hfit
            unfold fits at hf
            simp only [Bool.and_eq_true, Bool.or_eq_true, decide_eq_true_eq] at hf
            unfold numN
            split
            · omega
            · have := hf.1; omega
          rw [Nat.min_eq_right hnh] at hM
          have hr := Lib.hid (stepO_3 (ws := ws) hk.out hkz (by rw [hF.out, hhm.out]; exact hfit) (by rw [hF.out, hhm.out]; exact hM))
          rw [hF.out, hhm.out] at hr
          have hT : (((ws.drop 1).drop (numN F h)).take (h - numN F h)) = ws.drop (1 + numN F h) := by
            rw [List.take_of_length_le (by rw [List.length_drop, hdl]; omega), List.drop_drop]
          rw [hT] at hX
          have hMl := numsO_len hM
          rw [List.length_take, hdl, Nat.min_eq_left hnh] at hMl
          obtain ⟨TT, hTT⟩ : ∃ TT, Hid (ws.drop (1 + numN F h) = TT) := ⟨_, Lib.hid rfl⟩
          rw [hTT.out] at hX hr
          clear hT
          obtain ⟨sA, sc, rfl, -⟩ := id (ownT_strs hX.t)
          cases hop : F.opts with
          | false =>
            obtain rfl := ho2 hop
            rw [if_neg (by rw [hop]; simp), if_neg (by rw [hop]; simp)] at hX
            have hr2 : Hid (stepO ws = .inr ⟨(k : Int), [0, 0, 0, 0, 0, 0], M, TT⟩) := Lib.hid (by rw [hr.out, if_neg (by rw [hop]; simp), if_neg (by rw [hop]; simp)]; rfl)
            have x0' := hX.x.cell 0
            simp only [List.getElem?_toArray, List.getElem?_cons_zero] at x0'
            obtain ⟨nA, nc, rfl, -⟩ := id hX.n.ints
            have hW := hX.whole
            clear hX hM ho1 ho2 hMl hr
            have m0 := hW.s.cell 0; have m1 := hW.s.cell 1; have m2 := hW.s.cell 2; have m3 := hW.s.cell 3; have m4 := hW.s.cell 4; have m5 := hW.s.cell 5; have m6 := hW.s.cell 6; have m7 := hW.s.cell 7; have m8 := hW.s.cell 8
            have f0 := hW.z.frozen 0; have f1 := hW.z.frozen 1; have f2 := hW.z.frozen 2; have f3 := hW.z.frozen 3; have f4 := hW.z.frozen 4; have f5 := hW.z.frozen 5; have f6 := hW.z.frozen 6; have f7 := hW.z.frozen 7; have f8 := hW.z.frozen 8
            have k0 := hW.z.cell 0; have k1 := hW.z.cell 1; have k2 := hW.z.cell 2; have k3 := hW.z.cell 3; have k4 := hW.z.cell 4; have k5 := hW.z.cell 5; have k6 := hW.z.cell 6; have k7 := hW.z.cell 7; have k8 := hW.z.cell 8
            simp only [List.getElem?_toArray, List.getElem?_cons_zero, List.getElem?_cons_succ] at k0 k1 k2 k3 k4 k5 k6 k7 k8 m0 m1 m2 m3 m4 m5 m6 m7 m8
            have HW := hide hW; clear hW
            go_wp2_with fail
            refine bodyPost_ret (results_step rfl _ _ w.heap.size _ rfl rfl (blk9_store (unhide HW).z _ _ _ _ _ _ _ _ _)) rfl ?_
            refine ⟨?_, below9 (unhide HW).b (Nat.le_refl _) _ _ _ _ _ _ _ _ _⟩
            rw [hr2.out]
            exact ⟨⟨(k : Int), _, _, 0, 0, 0, 0, 0, 0, M, TT⟩, rfl, rfl, row_mono (far9 (unhide HW).n (Nat.lt_succ_self _) _ _ _ _ _ _ _ _ _) (Nat.le_succ _), row_mono (far9 (unhide HW).t (Nat.lt_succ_self _) _ _ _ _ _ _ _ _ _) (Nat.le_succ _)⟩
          | true =>
            obtain rfl := ho1 hop
            rw [if_pos hop, if_pos hop] at hX
            have hFt := shape_tab ⟨k, by omega⟩
            simp only at hFt
            rw [hF.out] at hFt
            have h6 : M.length = 6 := by rw [hMl, numN_opts hop (hFt.1 hop).2.2]
            obtain ⟨a, b, c, d, e, f, rfl⟩ : ∃ a b c d e f : Int, M = [a, b, c, d, e, f] := by
              match M, h6 with
              | [a, b, c, d, e, f], _ => exact ⟨a, b, c, d, e, f, rfl⟩
            have hr2 : Hid (stepO ws = .inr ⟨(k : Int), [a, b, c, d, e, f], [], TT⟩) := Lib.hid (by rw [hr.out, if_pos hop, if_pos hop])
            have x0' := hX.x.cell 0
            simp only [List.getElem?_toArray, List.getElem?_cons_zero] at x0'
            obtain ⟨nA, nc, rfl, -⟩ := id hX.o.ints
            have hopt := opts_any _ _ a b c d e f wc hX.o
            simp only [List.length_cons, List.length_nil, Nat.zero_add, Nat.reduceAdd] at hopt x0'
            have HX2 := hide hX; have HOP := hide hopt
            clear hX hM ho1 ho2 hMl hr h6 hFt hopt
            go_wp2_with fail
            refine (unhide HOP).mono ?_
            rintro e7 w7 ⟨rfl, hb7⟩
            have hX7 := (unhide HX2).call hb7
            have y3 := hX7.s.cell 3; have y4 := hX7.s.cell 4; have y5 := hX7.s.cell 5; have y6 := hX7.s.cell 6; have y7 := hX7.s.cell 7; have y8 := hX7.s.cell 8
            have g3 := hX7.s.frozen 3; have g4 := hX7.s.frozen 4; have g5 := hX7.s.frozen 5; have g6 := hX7.s.frozen 6; have g7 := hX7.s.frozen 7; have g8 := hX7.s.frozen 8
            simp only [List.getElem?_toArray, List.getElem?_cons_zero, List.getElem?_cons_succ] at y3 y4 y5 y6 y7 y8
            have hW := hX7.six a b c d e f
            have HW := hide hW; clear hW hX7 HX2 HOP hb7 x0'
            go_upto_region 13 with fail
            have hW := unhide HW
            clear HW y3 y4 y5 y6 y7 y8 g3 g4 g5 g6 g7 g8
            generalize ((((((w7.setCell ⟨gs, 3, none⟩ (.int .i64 a)).setCell ⟨gs, 4, none⟩ (.int .i64 b)).setCell ⟨gs, 5, none⟩ (.int .i64 c)).setCell ⟨gs, 6, none⟩ (.int .i64 d)).setCell ⟨gs, 7, none⟩ (.int .i64 e)).setCell ⟨gs, 8, none⟩ (.int .i64 f)) = w8 at *
            have m0 := hW.s.cell 0; have m1 := hW.s.cell 1; have m2 := hW.s.cell 2; have m3 := hW.s.cell 3; have m4 := hW.s.cell 4; have m5 := hW.s.cell 5; have m6 := hW.s.cell 6; have m7 := hW.s.cell 7; have m8 := hW.s.cell 8
            have f0 := hW.z.frozen 0; have f1 := hW.z.frozen 1; have f2 := hW.z.frozen 2; have f3 := hW.z.frozen 3; have f4 := hW.z.frozen 4; have f5 := hW.z.frozen 5; have f6 := hW.z.frozen 6; have f7 := hW.z.frozen 7; have f8 := hW.z.frozen 8
            have k0 := hW.z.cell 0; have k1 := hW.z.cell 1; have k2 := hW.z.cell 2; have k3 := hW.z.cell 3; have k4 := hW.z.cell 4; have k5 := hW.z.cell 5; have k6 := hW.z.cell 6; have k7 := hW.z.cell 7; have k8 := hW.z.cell 8
            simp only [List.getElem?_toArray, List.getElem?_cons_zero, List.getElem?_cons_succ] at k0 k1 k2 k3 k4 k5 k6 k7 k8 m0 m1 m2 m3 m4 m5 m6 m7 m8
            have HW := hide hW; clear hW
            go_wp2_with fail
            refine bodyPost_ret (results_step rfl _ _ w.heap.size _ rfl rfl (blk9_store (unhide HW).z _ _ _ _ _ _ _ _ _)) rfl ?_
            refine ⟨?_, below9 (unhide HW).b (Nat.le_refl _) _ _ _ _ _ _ _ _ _⟩
            rw [hr2.out]
            exact ⟨⟨(k : Int), _, _, a, b, c, d, e, f, [], TT⟩, rfl, rfl, row_mono (far9 (unhide HW).n (Nat.lt_succ_self _) _ _ _ _ _ _ _ _ _) (Nat.le_succ _), row_mono (far9 (unhide HW).t (Nat.lt_succ_self _) _ _ _ _ _ _ _ _ _) (Nat.le_succ _)⟩
        · have hr := Lib.hid (stepO_2 (ws := ws) hk.out hkz (by rw [hF.out, hhm.out]; exact hfit) (by rw [hF.out, hhm.out]; rw [hdl] at hN; exact hN))
          have H3 := hide (And.intro hB hb); clear hN hb hB
          have f0 := (unhide H3).1.frozen 0; have f1 := (unhide H3).1.frozen 1; have f2 := (unhide H3).1.frozen 2; have f3 := (unhide H3).1.frozen 3; have f4 := (unhide H3).1.frozen 4; have f5 := (unhide H3).1.frozen 5; have f6 := (unhide H3).1.frozen 6; have f7 := (unhide H3).1.frozen 7; have f8 := (unhide H3).1.frozen 8
          have k0 := (unhide H3).1.cell 0; have k1 := (unhide H3).1.cell 1; have k2 := (unhide H3).1.cell 2; have k3 := (unhide H3).1.cell 3; have k4 := (unhide H3).1.cell 4; have k5 := (unhide H3).1.cell 5; have k6 := (unhide H3).1.cell 6; have k7 := (unhide H3).1.cell 7; have k8 := (unhide H3).1.cell 8
          simp only [List.getElem?_toArray, List.getElem?_cons_zero, List.getElem?_cons_succ] at k0 k1 k2 k3 k4 k5 k6 k7 k8
          go_wp2_with fail
          refine bodyPost_ret (results_step rfl _ _ w.heap.size _ rfl rfl (blk9_store (unhide H3).1 _ _ _ _ _ _ _ _ _)) rfl ?_
          exact ⟨by rw [hr.out]; rfl, below9 (unhide H3).2 (Nat.le_refl _) _ _ _ _ _ _ _ _ _⟩
end Go.Proofs.Ytaomecinemmdgaa

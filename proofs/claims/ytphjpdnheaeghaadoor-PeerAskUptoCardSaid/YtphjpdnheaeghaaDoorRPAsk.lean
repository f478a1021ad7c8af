/-
  CONTRACT of annalsref22.Ask.
-/
import Derived.Test.YtphjpdnheaeghaaDoorRows
import Derived.Test.YtphjpdnheaeghaaDoorWd
import Derived.Test.YtphjpdnheaeghaaDoorPeerP
import Derived.Test.YtphjpdnheaeghaaDoorRB64
set_option linter.unusedVariables false
set_option linter.unusedSimpArgs false
namespace Go.Proofs.YtphjpdnheaeghaaDoor
open Go.RowKit Go.Lib
def In64P (z : Int) : Prop := -9223372036854775808 ≤ z ∧ z ≤ 9223372036854775807
theorem strsP_at {w : World} {A : Option Addr} {m c : Nat} {es : List ByteArray} (h : StrsAt w (.slice A m c) es) (j : Nat) (hj : j < es.length) : ∃ a, A = some a ∧ w.cell? (a.add j) = some (.string es[j]) := by
  obtain ⟨A', c', hv, hc⟩ := h
  injection hv with e1 e2 e3
  subst e1
  exact hc j hj
/-- The text so far. -/
def preT (old : Int) (l : List ByteArray) : ByteArray := ⟨#[111, 108, 100, 32]⟩ ++ decS old ++ ⟨#[10]⟩ ++ ⟨(l.flatMap (fun h => (b64S h).data.toList ++ [10])).toArray⟩
theorem preT_nil (old : Int) : preT old [] = ⟨#[111, 108, 100, 32]⟩ ++ decS old ++ ⟨#[10]⟩ := by
  apply ByteArray.ext; apply Array.ext'; simp [preT, ByteArray.data_append]
theorem preT_snoc (old : Int) (l : List ByteArray) (h : ByteArray) : preT old (l ++ [h]) = preT old l ++ b64S h ++ ⟨#[10]⟩ := by
  apply ByteArray.ext; apply Array.ext'
  unfold preT
  rw [flat_snoc]
  simp [ByteArray.data_append]
theorem preT_ask (r : RqR) : preT r.old r.pf ++ ⟨#[10]⟩ ++ r.nt = askB r := by rw [ask_text]; rfl
theorem preT_size (old : Int) (l : List ByteArray) (h : ∀ x ∈ l, x.size ≤ 32) (hl : l.length ≤ 63) : (preT old l).size ≤ 3000 + (decS old).size := by
  have h1 := askB_size ⟨old, l, ⟨#[]⟩⟩ h
  have h2 := congrArg ByteArray.size (preT_ask ⟨old, l, ⟨#[]⟩⟩)
  simp only [ByteArray.size_append] at h2
  have e : (⟨#[]⟩ : ByteArray).size = 0 := rfl
  simp only [e] at h1 h2
  omega
/-- What Ask answers. -/
def askV (r : RqR) : Value := .tuple #[.string (if askE r = 0 then askB r else ⟨#[]⟩), .int .i64 (askE r : Int)]
theorem askV_no {r : RqR} {n : Nat} (h : askE r = n) (hn : n ≠ 0) : askV r = .tuple #[.string ⟨#[]⟩, .int .i64 (n : Int)] := by unfold askV; rw [h, if_neg hn]
theorem askV_ok {r : RqR} (h : askE r = 0) : askV r = .tuple #[.string (askB r), .int .i64 0] := by unfold askV; rw [h, if_pos rfl]; rfl
theorem askE_bad {r : RqR} (h1 : 0 ≤ r.old) (h2 : r.old ≤ 4611686018427387904) (h3 : r.pf.length ≤ 63) {j : Nat} (hj : j < r.pf.length) (h4 : ¬ (1 ≤ r.pf[j].size ∧ r.pf[j].size ≤ 32)) : askE r = 72 := by
  unfold askE
  rw [if_neg (by omega), if_neg (by omega), if_neg]
  intro h
  simp only [List.all_eq_true, decide_eq_true_eq] at h
  exact h4 (h _ (List.getElem_mem hj))
theorem askE_rng {r : RqR} (h : r.old < 0 ∨ 4611686018427387904 < r.old) : askE r = 10 := by unfold askE; rw [if_pos h]
theorem askE_many {r : RqR} (h1 : 0 ≤ r.old) (h2 : r.old ≤ 4611686018427387904) (h3 : 63 < r.pf.length) : askE r = 83 := by unfold askE; rw [if_neg (by omega), if_pos h3]
theorem dec_size20 {n : Int} (h1 : -9223372036854775808 ≤ n) (h2 : n ≤ 9223372036854775807) : (decS n).size ≤ 20 := by
  show (decL n).toArray.size ≤ 20
  rw [List.size_toArray]
  unfold decL
  split
  · have := digL_length 19 n.toNat (by omega) (by decide); omega
  · have := digL_length 19 (-n).toNat (by omega) (by decide)
    rw [List.length_cons]; omega
set_option maxRecDepth 100000 in
set_option maxHeartbeats 4000000 in
theorem rpask_any (r : RqR) (vp : Value) (w : World) (hS : StrsAt w vp r.pf) (hin : In64P r.old) (hn : r.pf.length ≤ 1099511627776) (hnt : r.nt.size ≤ 1099511627776) :
    Calls Tryd.prog 6 #[.agg #[.int .i64 r.old, vp, .string r.nt]] w fun e w' => e = .returned (askV r) ∧ Below w.heap.size w w' := by
  have e10 : (⟨#[10]⟩ : ByteArray).size = 1 := rfl
  have e4 : (⟨#[111, 108, 100, 32]⟩ : ByteArray).size = 4 := rfl
  have hb0 : Below w.heap.size w (w.alloc (.cells #[.int .i64 r.old, vp, .string r.nt] 24)) := (Below.refl _ _).alloc (Nat.le_refl _) _
  have hB := Blk.new w 24 #[.int .i64 r.old, vp, .string r.nt]
  have hd := rdec_any r.old (w.alloc (.cells #[.int .i64 r.old, vp, .string r.nt] 24)) hin.1 hin.2
  have hds : (decS r.old).size ≤ 20 := dec_size20 hin.1 hin.2
  have hps := fun l h1 h2 => preT_size r.old l h1 h2
  obtain ⟨A, c, rfl, -⟩ := id hS
  have hS1 := hS.below hb0
  have c0 := hB.cell 0; have c1 := hB.cell 1; have c2 := hB.cell 2
  simp only [List.getElem?_toArray, List.getElem?_cons_zero, List.getElem?_cons_succ] at c0 c1 c2
  have h10 := fun h => askV_no (askE_rng (r := r) h) (by decide)
  have h83 := fun h1 h2 h3 => askV_no (askE_many (r := r) h1 h2 h3) (by decide)
  have h72 := fun (h1 : 0 ≤ r.old) h2 h3 (j : Nat) (hj : j < r.pf.length) h4 => askV_no (askE_bad (r := r) h1 h2 h3 hj h4) (by decide)
  have hok := fun h => askV_ok (r := r) (askE_ok.2 h)
  have hask := preT_ask r
  unfold AskOk at hok
  obtain ⟨old, pf, nt⟩ := r
  simp only at *
  have HB := hide hb0; have HD := hide hd; have HS := hide hS1; have HPS := hide hps
  have H10 := hide h10; have H83 := hide h83; have H72 := hide h72; have HOK := hide hok; have HASK := Lib.hid hask
  clear hb0 hB hd hS hS1 hps h10 h83 h72 hok hask
  generalize askV ⟨old, pf, nt⟩ = V at *
  go_enter Tryd.func6, Tryd.ntmps6
  by_cases ho1 : old < 0
  · have hr := Lib.hid ((unhide H10) (.inl ho1))
    go_wp2_with fail
    go_ret2
    exact ⟨by rw [hr.out]; rfl, unhide HB⟩
  by_cases ho2 : 4611686018427387904 < old
  · have hr := Lib.hid ((unhide H10) (.inr ho2))
    go_wp2_with fail
    go_ret2
    exact ⟨by rw [hr.out]; rfl, unhide HB⟩
  by_cases ho3 : 63 < pf.length
  · have hr := Lib.hid ((unhide H83) (by omega) (by omega) ho3)
    have t3 : (63 : Int) < (pf.length : Int) := by omega
    go_wp2_with fail
    go_ret2
    exact ⟨by rw [hr.out]; rfl, unhide HB⟩
  have t3 : ¬ (63 : Int) < (pf.length : Int) := by omega
  have y1 : ¬ 9223372036854775807 < 4 + (decS old).size := by omega
  have y2 : ¬ 9223372036854775807 < 4 + (decS old).size + 1 := by omega
  go_wp2_with fail
  refine (unhide HD).mono ?_
  rintro e1 w1 ⟨rfl, rfl⟩
  clear HD
  generalize (w.alloc (.cells #[.int .i64 old, .slice A pf.length c, .string nt] 24)) = w0 at *
  go_wp2_with fail
  go_loopw [5, 6, 7] (fun o i _ W => ∃ j : Nat, i = .int .i64 (j : Int) ∧ j ≤ pf.length ∧ o = .string (preT old (pf.take j)) ∧ Hid (∀ q (h : q < pf.length), q < j → 1 ≤ pf[q].size ∧ pf[q].size ≤ 32) ∧ Hid (w0 = W)) (fun _ i _ _ => pf.length - (RowKit.intOf i).toNat)
  case atStart => exact ⟨0, rfl, Nat.zero_le _, by rw [List.take_zero, preT_nil], Lib.hid (fun q h h2 => absurd h2 (by omega)), Lib.hid rfl⟩
  case round =>
    obtain ⟨j, rfl, hj, rfl, hgood, hw⟩ := hrel
    have hw' := hw.out
    subst hw'
    have t0 : (0 : Int) ≤ (j : Int) := by omega
    have hpt : (preT old (pf.take j)).size ≤ 3000 + (decS old).size := (unhide HPS) _ (fun x hx => by
      obtain ⟨q, hq, rfl⟩ := List.mem_iff_getElem.1 hx
      rw [List.length_take] at hq
      rw [List.getElem_take]
      exact (hgood.out q (by omega) (by omega)).2) (by rw [List.length_take]; omega)
    rcases Nat.lt_or_ge j pf.length with hlt | hge
    · have t1 : (j : Int) < (pf.length : Int) := by omega
      have qb : j ≤ 63 := by omega
      obtain ⟨a, rfl, ca⟩ := strsP_at (unhide HS) j hlt
      have h72 := fun h4 => (unhide H72) (by omega) (by omega) (by omega) j hlt h4
      have hnx : Hid (preT old (pf.take (j + 1)) = preT old (pf.take j) ++ b64S pf[j] ++ ⟨#[10]⟩) := Lib.hid (by rw [List.take_succ_eq_append_getElem hlt, preT_snoc])
      have hgd : Hid ((1 ≤ pf[j].size ∧ pf[j].size ≤ 32) → ∀ q (h : q < pf.length), q < j + 1 → 1 ≤ pf[q].size ∧ pf[q].size ≤ 32) := Lib.hid (fun h q hq h2 => by
        rcases Nat.lt_succ_iff_lt_or_eq.1 h2 with h' | rfl
        · exact hgood.out q hq h'
        · exact h)
      have hbs := b64S_size pf[j]
      generalize pf[j] = x at *
      have H72b := hide h72; clear h72
      generalize preT old (pf.take j) = P0 at *
      by_cases x1 : x.size < 1
      · have hr := Lib.hid ((unhide H72b) (by omega))
        have s1 : (x.size : Int) < 1 := by omega
        clear hbs
        go_wp2_with fail
        go_ret2
        exact ⟨by rw [hr.out]; rfl, unhide HB⟩
      · by_cases x2 : 32 < x.size
        · have hr := Lib.hid ((unhide H72b) (by omega))
          have s1 : ¬ (x.size : Int) < 1 := by omega
          have s2 : (32 : Int) < (x.size : Int) := by omega
          clear hbs
          go_wp2_with fail
          go_ret2
          exact ⟨by rw [hr.out]; rfl, unhide HB⟩
        · have s1 : ¬ (x.size : Int) < 1 := by omega
          have s2 : ¬ (32 : Int) < (x.size : Int) := by omega
          have hb := rb64_any x w0 (by omega)
          have HB64 := hide hb
          have y3 : ¬ 9223372036854775807 < P0.size + (b64S x).size := by omega
          have y4 : ¬ 9223372036854775807 < P0.size + (b64S x).size + 1 := by omega
          have hg2 := Lib.hid (hgd.out ⟨by omega, by omega⟩)
          generalize b64S x = X at *
          clear hb hbs hpt hgd
          go_wp2_with fail
          refine (unhide HB64).mono ?_
          rintro e2 w2 ⟨rfl, rfl⟩
          go_wp2_with fail
          exact ⟨⟨j + 1, by go_num, by omega, by rw [hnx.out], hg2, Lib.hid (by first | trivial | rfl)⟩, by simp [RowKit.intOf]; omega⟩
    · have t1 : ¬ (j : Int) < (pf.length : Int) := by omega
      have hr := Lib.hid ((unhide HOK) ⟨by omega, by omega, by omega, fun h hh => by
        obtain ⟨q, hq, rfl⟩ := List.mem_iff_getElem.1 hh
        exact hgood.out q hq (by omega)⟩)
      rw [List.take_of_length_le hge] at hpt ⊢
      have hask := HASK
      generalize preT old pf = P0 at *
      have y5 : ¬ 9223372036854775807 < P0.size + 1 := by omega
      have y6 : ¬ 9223372036854775807 < P0.size + 1 + nt.size := by omega
      have y7 : ¬ 9223372036854775807 < (P0 ++ ⟨#[10]⟩ : ByteArray).size + nt.size := by rw [ByteArray.size_append, e10]; exact y6
      have ha := hask.out
      rw [← ha] at hr
      clear hpt ha hask HASK
      go_wp2_with fail
      go_ret2
      exact ⟨by rw [hr.out]; rfl, unhide HB⟩
end Go.Proofs.YtphjpdnheaeghaaDoor

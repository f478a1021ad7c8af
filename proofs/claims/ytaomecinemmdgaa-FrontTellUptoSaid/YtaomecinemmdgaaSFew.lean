/-
  CONTRACTS of the law's few and some.
-/
import Derived.Test.YtaomecinemmdgaaRows
import Derived.Test.YtaomecinemmdgaaGBase
import Derived.Test.YtaomecinemmdgaaGLns
import Derived.Test.YtaomecinemmdgaaSTwinI
import Derived.Test.YtaomecinemmdgaaSRStepA
import Derived.Test.YtaomecinemmdgaaSTWords
set_option linter.unusedVariables false
set_option linter.unusedSimpArgs false
namespace Go.Proofs.Ytaomecinemmdgaa
open Go.RowKit Go.Lib
theorem intsAt_at {w : World} {A : Option Addr} {m c : Nat} {es : List Int} (h : IntsAt w (.slice A m c) es) (j : Nat) (hj : j < es.length) : ∃ a, A = some a ∧ w.cell? (a.add j) = some (.int .i64 es[j]) := by
  obtain ⟨A', c', hv, hc⟩ := h
  injection hv with e1 e2 e3
  subst e1
  exact hc j hj
def fewL (l : List Int) (k : Nat) : List Int := (List.range k).map (fun i => l.getD i 0)
def someL (l : List ByteArray) (k : Nat) : List ByteArray := (List.range k).map (fun i => l.getD i ⟨#[]⟩)
theorem fewL_succ (l : List Int) (k : Nat) : fewL l (k + 1) = fewL l k ++ [l.getD k 0] := by unfold fewL; rw [List.range_succ, List.map_append]; rfl
theorem someL_succ (l : List ByteArray) (k : Nat) : someL l (k + 1) = someL l k ++ [l.getD k ⟨#[]⟩] := by unfold someL; rw [List.range_succ, List.map_append]; rfl
theorem fewL_length (l : List Int) (k : Nat) : (fewL l k).length = k := by unfold fewL; simp
theorem someL_length (l : List ByteArray) (k : Nat) : (someL l k).length = k := by unfold someL; simp
set_option maxRecDepth 100000 in
set_option maxHeartbeats 1000000 in
theorem few_any (v : Value) (l : List Int) (k : Nat) (w : World) (hN : IntsAt w v l) (hk : k ≤ 4) :
    Calls Try.prog 50 #[v, .int .i64 (k : Int)] w fun e w' => ∃ v', e = .returned v' ∧ OwnI w' w.heap.size v' (fewL l k) ∧ Below w.heap.size w w' := by
  obtain ⟨A, c, rfl, -⟩ := id hN
  have HN := hide hN; clear hN
  go_enter Try.func50, Try.ntmps50
  go_wp2_with fail
  go_loopw [5, 6, 7] (fun o i _ W => ∃ (j : Nat), j ≤ k ∧ i = .int .i64 (j : Int) ∧ OwnI W w.heap.size o (fewL l j) ∧ Below w.heap.size w W) (fun _ i _ _ => k - (RowKit.intOf i).toNat)
  case atStart => exact ⟨0, Nat.zero_le _, rfl, World.ownsRow_made w #[] 0 (Nat.le_refl _) (by simp [maxLen]) rfl, (Below.refl _ _).alloc (Nat.le_refl _) _⟩
  case round =>
    obtain ⟨j, hj, rfl, hO, hb⟩ := hrel
    rcases Nat.lt_or_ge j k with hlt | hge
    · have t0 : (0 : Int) ≤ (j : Int) := by omega
      have t1 : (j : Int) < (k : Int) := by omega
      have qb : j ≤ 4 := by omega
      have HX := hide (And.intro hO hb)
      have hs : Hid (fewL l (j + 1) = fewL l j ++ [l.getD j 0]) := Lib.hid (fewL_succ l j)
      rcases Nat.lt_or_ge j l.length with hl | hl
      · obtain ⟨q, rfl, hca⟩ := intsAt_at ((unhide HN).below hb) j hl
        have t2 : (j : Int) < (l.length : Int) := by omega
        have hgd : l.getD j 0 = l[j] := by rw [List.getD_eq_getElem?_getD, List.getElem?_eq_getElem hl]; rfl
        rw [hgd] at hs
        clear hgd hO hb
        generalize l[j] = x at *
        go_wp2_with (first | (at_builtin; refine wpList_appI1 wr rfl _ _ rfl (unhide HX).1 rfl rfl (by rw [fewL_length]; omega) (unhide HX).2.size ?_; intro v1 w3 hO1 hg1 hat1; have H4 := hide (And.intro hO1 (appI_below (unhide HX).2 (unhide HX).1 (unhide HX).2.size hg1)); clear hO1 hg1 hat1))
        exact ⟨⟨j + 1, by omega, by go_num, by rw [hs.out]; exact (unhide H4).1, (unhide H4).2⟩, by simp [RowKit.intOf]; omega⟩
      · have t2 : ¬ (j : Int) < (l.length : Int) := by omega
        have hgd : l.getD j 0 = 0 := by rw [List.getD_eq_getElem?_getD, List.getElem?_eq_none hl]; rfl
        rw [hgd] at hs
        clear hgd hO hb
        go_wp2_with (first | (at_builtin; refine wpList_appI1 wr rfl _ _ rfl (unhide HX).1 rfl rfl (by rw [fewL_length]; omega) (unhide HX).2.size ?_; intro v1 w3 hO1 hg1 hat1; have H4 := hide (And.intro hO1 (appI_below (unhide HX).2 (unhide HX).1 (unhide HX).2.size hg1)); clear hO1 hg1 hat1))
        exact ⟨⟨j + 1, by omega, by go_num, by rw [hs.out]; exact (unhide H4).1, (unhide H4).2⟩, by simp [RowKit.intOf]; omega⟩
    · have t1 : ¬ (j : Int) < (k : Int) := by omega
      obtain rfl : j = k := by omega
      have HX := hide (And.intro hO hb)
      clear hO hb
      go_wp2_with fail
      go_ret
      exact ⟨_, rfl, (unhide HX).1, (unhide HX).2⟩
set_option maxRecDepth 100000 in
set_option maxHeartbeats 1000000 in
theorem some_any (v : Value) (l : List ByteArray) (k : Nat) (w : World) (hN : StrsAt w v l) (hk : k ≤ 4) :
    Calls Try.prog 51 #[v, .int .i64 (k : Int)] w fun e w' => ∃ v', e = .returned v' ∧ OwnT w' w.heap.size v' (someL l k) ∧ Below w.heap.size w w' := by
  obtain ⟨A, c, rfl, -⟩ := id hN
  have HN := hide hN; clear hN
  go_enter Try.func51, Try.ntmps51
  go_wp2_with fail
  go_loopw [5, 6, 7] (fun o i _ W => ∃ (j : Nat), j ≤ k ∧ i = .int .i64 (j : Int) ∧ OwnT W w.heap.size o (someL l j) ∧ Below w.heap.size w W) (fun _ i _ _ => k - (RowKit.intOf i).toNat)
  case atStart => exact ⟨0, Nat.zero_le _, rfl, World.ownsRow_made w #[] 0 (Nat.le_refl _) (by simp [maxLen]) rfl, (Below.refl _ _).alloc (Nat.le_refl _) _⟩
  case round =>
    obtain ⟨j, hj, rfl, hO, hb⟩ := hrel
    rcases Nat.lt_or_ge j k with hlt | hge
    · have t0 : (0 : Int) ≤ (j : Int) := by omega
      have t1 : (j : Int) < (k : Int) := by omega
      have qb : j ≤ 4 := by omega
      have HX := hide (And.intro hO hb)
      have hs : Hid (someL l (j + 1) = someL l j ++ [l.getD j ⟨#[]⟩]) := Lib.hid (someL_succ l j)
      rcases Nat.lt_or_ge j l.length with hl | hl
      · obtain ⟨q, rfl, hca⟩ := strs_at ((unhide HN).below hb) j hl
        have t2 : (j : Int) < (l.length : Int) := by omega
        have hgd : l.getD j ⟨#[]⟩ = l[j] := by rw [List.getD_eq_getElem?_getD, List.getElem?_eq_getElem hl]; rfl
        rw [hgd] at hs
        clear hgd hO hb
        generalize l[j] = x at *
        go_wp2_with (first | (at_builtin; refine wpList_appT1 wr rfl _ _ rfl (unhide HX).1 rfl rfl (by rw [someL_length]; omega) (unhide HX).2.size ?_; intro v1 w3 hO1 hg1 hat1; have H4 := hide (And.intro hO1 (appT_below (unhide HX).2 (unhide HX).1 (unhide HX).2.size hg1)); clear hO1 hg1 hat1))
        exact ⟨⟨j + 1, by omega, by go_num, by rw [hs.out]; exact (unhide H4).1, (unhide H4).2⟩, by simp [RowKit.intOf]; omega⟩
      · have t2 : ¬ (j : Int) < (l.length : Int) := by omega
        have hgd : l.getD j ⟨#[]⟩ = ⟨#[]⟩ := by rw [List.getD_eq_getElem?_getD, List.getElem?_eq_none hl]; rfl
        rw [hgd] at hs
        clear hgd hO hb
        go_wp2_with (first | (at_builtin; refine wpList_appT1 wr rfl _ _ rfl (unhide HX).1 rfl rfl (by rw [someL_length]; omega) (unhide HX).2.size ?_; intro v1 w3 hO1 hg1 hat1; have H4 := hide (And.intro hO1 (appT_below (unhide HX).2 (unhide HX).1 (unhide HX).2.size hg1)); clear hO1 hg1 hat1))
        exact ⟨⟨j + 1, by omega, by go_num, by rw [hs.out]; exact (unhide H4).1, (unhide H4).2⟩, by simp [RowKit.intOf]; omega⟩
    · have t1 : ¬ (j : Int) < (k : Int) := by omega
      obtain rfl : j = k := by omega
      have HX := hide (And.intro hO hb)
      clear hO hb
      go_wp2_with fail
      go_ret
      exact ⟨_, rfl, (unhide HX).1, (unhide HX).2⟩
end Go.Proofs.Ytaomecinemmdgaa

/-
  CONTRACTS of play.number, play.word, play.numbers.
-/
import Derived.Test.YtaomecinemmdgaaRows
import Derived.Test.YtaomecinemmdgaaGBase
import Derived.Test.YtaomecinemmdgaaGLns
import Derived.Test.YtaomecinemmdgaaSRLine
set_option linter.unusedVariables false
set_option linter.unusedSimpArgs false
namespace Go.Proofs.Ytaomecinemmdgaa
open Go.RowKit Go.Lib
set_option maxRecDepth 100000 in
theorem number_any (v : Value) (l : List Int) (i : Nat) (w : World) (hN : IntsAt w v l) :
    Calls Try.prog 54 #[v, .int .i64 (i : Int)] w fun e w' => e = .returned (.int .i64 (l.getD i 0)) ∧ w = w' := by
  obtain ⟨A, c, rfl, he⟩ := hN
  have t0 : (0 : Int) ≤ (i : Int) := by omega
  rcases Nat.lt_or_ge i l.length with hlt | hge
  · obtain ⟨p, rfl, hc⟩ := he i hlt
    have hgd : l.getD i 0 = l[i] := by rw [List.getD_eq_getElem?_getD, List.getElem?_eq_getElem hlt]; rfl
    have t1 : (i : Int) < (l.length : Int) := by omega
    rw [hgd]
    clear he hgd
    generalize l[i] = x at *
    go_enter Try.func54, Try.ntmps54
    go_wp2_with fail
    go_ret
    exact ⟨rfl, rfl⟩
  · have hgd : l.getD i 0 = 0 := by rw [List.getD_eq_getElem?_getD, List.getElem?_eq_none hge]; rfl
    have t1 : ¬ (i : Int) < (l.length : Int) := by omega
    rw [hgd]
    clear he hgd
    go_enter Try.func54, Try.ntmps54
    go_wp2_with fail
    go_ret
    exact ⟨rfl, rfl⟩
set_option maxRecDepth 100000 in
theorem word_any (v : Value) (l : List ByteArray) (i : Nat) (w : World) (hN : StrsAt w v l) :
    Calls Try.prog 56 #[v, .int .i64 (i : Int)] w fun e w' => e = .returned (.string (l.getD i ⟨#[]⟩)) ∧ w = w' := by
  obtain ⟨A, c, rfl, he⟩ := hN
  have t0 : (0 : Int) ≤ (i : Int) := by omega
  rcases Nat.lt_or_ge i l.length with hlt | hge
  · obtain ⟨p, rfl, hc⟩ := he i hlt
    have hgd : l.getD i ⟨#[]⟩ = l[i] := by rw [List.getD_eq_getElem?_getD, List.getElem?_eq_getElem hlt]; rfl
    have t1 : (i : Int) < (l.length : Int) := by omega
    rw [hgd]
    clear he hgd
    generalize l[i] = x at *
    go_enter Try.func56, Try.ntmps56
    go_wp2_with fail
    go_ret
    exact ⟨rfl, rfl⟩
  · have hgd : l.getD i ⟨#[]⟩ = ⟨#[]⟩ := by rw [List.getD_eq_getElem?_getD, List.getElem?_eq_none hge]; rfl
    have t1 : ¬ (i : Int) < (l.length : Int) := by omega
    rw [hgd]
    clear he hgd
    go_enter Try.func56, Try.ntmps56
    go_wp2_with fail
    go_ret
    exact ⟨rfl, rfl⟩
set_option maxRecDepth 100000 in
theorem numbers_any (a b c d e f : Int) (w : World) : Calls Try.prog 57 #[.agg #[.int .i64 a, .int .i64 b, .int .i64 c, .int .i64 d, .int .i64 e, .int .i64 f]] w fun e' w' => ∃ g, e' = .returned (.slice (some ⟨g, 0, none⟩) 6 6) ∧ w.heap.size ≤ g ∧ Blk w' g 3 #[.int .i64 a, .int .i64 b, .int .i64 c, .int .i64 d, .int .i64 e, .int .i64 f] ∧ Below w.heap.size w w' := by
  go_enter Try.func57, Try.ntmps57
  go_wp2_with fail
  go_ret
  have hz : (w.alloc (.cells #[.int .i64 a, .int .i64 b, .int .i64 c, .int .i64 d, .int .i64 e, .int .i64 f] 50)).heap.size = w.heap.size + 1 := by simp
  have h := Blk.new (w.alloc (.cells #[.int .i64 a, .int .i64 b, .int .i64 c, .int .i64 d, .int .i64 e, .int .i64 f] 50)) 3 #[.int .i64 a, .int .i64 b, .int .i64 c, .int .i64 d, .int .i64 e, .int .i64 f]
  rw [hz] at h
  exact ⟨_, rfl, Nat.le_succ _, h, ((Below.refl _ _).alloc (Nat.le_refl _) _).alloc (by simp) _⟩
end Go.Proofs.Ytaomecinemmdgaa

/-
  CONTRACT of the law's clean, all kinds in one.
-/
import Derived.Test.YtaomecinemmdgaaRows
import Derived.Test.YtaomecinemmdgaaGBase
import Derived.Test.YtaomecinemmdgaaSTwinI
import Derived.Test.YtaomecinemmdgaaSClean
import Derived.Test.YtaomecinemmdgaaSCleanP
set_option linter.unusedVariables false
set_option linter.unusedSimpArgs false
namespace Go.Proofs.Ytaomecinemmdgaa
open Go.RowKit Go.Lib
/-- What clean answers. -/
def ClA (w w' : World) (vn vs : Value) (s : StepR) (e : Ending) : Prop := ∃ y : TE, e = .returned (.agg y.cs.toArray) ∧ NRow w w' vn s.ns y.vn y.ns ∧ SRow w w' vs s.ss y.vs y.ss ∧ y.step = cleanP s ∧ Below w.heap.size w w'
theorem clA_of {w w' : World} {vn vs : Value} {s : StepR} {e : Ending} {k : Nat} {vn' vs' : Value} {a b c d f g : Int} {nl : List Int} {sl : List ByteArray} (h1 : e = .returned (.agg (argV k vn' vs' a b c d f g))) (h2 : NRow w w' vn s.ns vn' nl) (h3 : SRow w w' vs s.ss vs' sl) (h4 : Below w.heap.size w w') (h5 : cleanP s = ⟨k, [a, b, c, d, f, g], nl, sl⟩) : ClA w w' vn vs s e :=
  ⟨⟨k, vn', vs', a, b, c, d, f, g, nl, sl⟩, h1, h2, h3, h5.symm, h4⟩
set_option maxRecDepth 100000 in
set_option maxHeartbeats 2000000 in
theorem clean_any (z : Int) (vn vs : Value) (a b c d e f : Int) (ns : List Int) (ss : List ByteArray) (w : World) (hN : IntsAt w vn ns) (hS : StrsAt w vs ss) :
    Calls Try.prog 25 #[.agg #[.int .i64 z, vn, vs, .int .i64 a, .int .i64 b, .int .i64 c, .int .i64 d, .int .i64 e, .int .i64 f]] w fun e' w' => ClA w w' vn vs ⟨z, [a, b, c, d, e, f], ns, ss⟩ e' := by
  by_cases h1 : z < 1
  · refine (clean_low z vn vs a b c d e f ns ss w h1 hN hS).mono ?_
    rintro e' w' ⟨vn', vs', h, hn, hs, hb⟩
    have hk : cleanK z = 4 := by unfold cleanK; rw [if_neg (by omega)]
    exact clA_of (k := 4) h hn hs hb (by unfold cleanP; dsimp only; rw [hk]; rfl)
  by_cases h2 : 34 < z
  · refine (clean_high z vn vs a b c d e f ns ss w h1 h2 hN hS).mono ?_
    rintro e' w' ⟨vn', vs', h, hn, hs, hb⟩
    have hk : cleanK z = 4 := by unfold cleanK; rw [if_neg (by omega)]
    exact clA_of (k := 4) h hn hs hb (by unfold cleanP; dsimp only; rw [hk]; rfl)
  obtain ⟨k, rfl⟩ : ∃ k : Nat, z = (k : Int) := ⟨z.toNat, by omega⟩
  have hk : cleanK (k : Int) = k := by unfold cleanK; rw [if_pos (by omega)]; omega
  have hh : k < 35 := by omega
  have hl : 0 < k := by omega
  clear h1 h2
  rcases (show k = 1 ∨ k = 2 ∨ k = 3 ∨ k = 4 ∨ k = 5 ∨ k = 6 ∨ k = 7 ∨ k = 8 ∨ k = 9 ∨ k = 10 ∨ k = 11 ∨ k = 12 ∨ k = 13 ∨ k = 14 ∨ k = 15 ∨ k = 16 ∨ k = 17 ∨ k = 18 ∨ k = 19 ∨ k = 20 ∨ k = 21 ∨ k = 22 ∨ k = 23 ∨ k = 24 ∨ k = 25 ∨ k = 26 ∨ k = 27 ∨ k = 28 ∨ k = 29 ∨ k = 30 ∨ k = 31 ∨ k = 32 ∨ k = 33 ∨ k = 34 by omega) with rfl | rfl | rfl | rfl | rfl | rfl | rfl | rfl | rfl | rfl | rfl | rfl | rfl | rfl | rfl | rfl | rfl | rfl | rfl | rfl | rfl | rfl | rfl | rfl | rfl | rfl | rfl | rfl | rfl | rfl | rfl | rfl | rfl | rfl
  · refine (clean_1 vn vs a b c d e f ns ss w hN hS).mono ?_
    rintro e' w' ⟨vn', vs', h, hn, hs, hb⟩
    exact clA_of (k := 1) h hn hs hb (by unfold cleanP; dsimp only; rw [hk]; rfl)
  · refine (clean_2 vn vs a b c d e f ns ss w hN hS).mono ?_
    rintro e' w' ⟨vn', vs', h, hn, hs, hb⟩
    exact clA_of (k := 2) h hn hs hb (by unfold cleanP; dsimp only; rw [hk]; rfl)
  · refine (clean_3 vn vs a b c d e f ns ss w hN hS).mono ?_
    rintro e' w' ⟨vn', vs', h, hn, hs, hb⟩
    exact clA_of (k := 3) h hn hs hb (by unfold cleanP; dsimp only; rw [hk]; rfl)
  · refine (clean_4 vn vs a b c d e f ns ss w hN hS).mono ?_
    rintro e' w' ⟨vn', vs', h, hn, hs, hb⟩
    exact clA_of (k := 4) h hn hs hb (by unfold cleanP; dsimp only; rw [hk]; rfl)
  · refine (clean_5 vn vs a b c d e f ns ss w hN hS).mono ?_
    rintro e' w' ⟨vn', vs', h, hn, hs, hb⟩
    exact clA_of (k := 5) h hn hs hb (by unfold cleanP; dsimp only; rw [hk]; rfl)
  · refine (clean_6 vn vs a b c d e f ns ss w hN hS).mono ?_
    rintro e' w' ⟨vn', vs', h, hn, hs, hb⟩
    exact clA_of (k := 6) h hn hs hb (by unfold cleanP; dsimp only; rw [hk]; rfl)
  · refine (clean_7 vn vs a b c d e f ns ss w hN hS).mono ?_
    rintro e' w' ⟨vn', vs', h, hn, hs, hb⟩
    exact clA_of (k := 7) h hn hs hb (by unfold cleanP; dsimp only; rw [hk]; rfl)
  · rcases Nat.lt_or_ge ns.length 4 with h8 | h8
    · refine (clean_8lt vn vs a b c d e f ns ss w h8 hN hS).mono ?_
      rintro e' w' ⟨vn', vs', h, hn, hs, hb⟩
      exact clA_of (k := 8) h hn hs hb (by have hcN : cleanN 8 ns = fewL ns 4 := (by unfold cleanN; rw [if_pos rfl, if_pos h8]); unfold cleanP; dsimp only; rw [hk, hcN]; rfl)
    · refine (clean_8ge vn vs a b c d e f ns ss w h8 hN hS).mono ?_
      rintro e' w' ⟨vn', vs', h, hn, hs, hb⟩
      exact clA_of (k := 8) h hn hs hb (by have hcN : cleanN 8 ns = ns := (by unfold cleanN; rw [if_pos rfl, if_neg (by omega)]); unfold cleanP; dsimp only; rw [hk, hcN]; rfl)
  · refine (clean_9 vn vs a b c d e f ns ss w hN hS).mono ?_
    rintro e' w' ⟨vn', vs', h, hn, hs, hb⟩
    exact clA_of (k := 9) h hn hs hb (by unfold cleanP; dsimp only; rw [hk]; rfl)
  · refine (clean_10 vn vs a b c d e f ns ss w hN hS).mono ?_
    rintro e' w' ⟨vn', vs', h, hn, hs, hb⟩
    exact clA_of (k := 10) h hn hs hb (by unfold cleanP; dsimp only; rw [hk]; rfl)
  · refine (clean_11 vn vs a b c d e f ns ss w hN hS).mono ?_
    rintro e' w' ⟨vn', vs', h, hn, hs, hb⟩
    exact clA_of (k := 11) h hn hs hb (by unfold cleanP; dsimp only; rw [hk]; rfl)
  · refine (clean_12 vn vs a b c d e f ns ss w hN hS).mono ?_
    rintro e' w' ⟨vn', vs', h, hn, hs, hb⟩
    exact clA_of (k := 12) h hn hs hb (by unfold cleanP; dsimp only; rw [hk]; rfl)
  · refine (clean_13 vn vs a b c d e f ns ss w hN hS).mono ?_
    rintro e' w' ⟨vn', vs', h, hn, hs, hb⟩
    exact clA_of (k := 13) h hn hs hb (by unfold cleanP; dsimp only; rw [hk]; rfl)
  · refine (clean_14 vn vs a b c d e f ns ss w hN hS).mono ?_
    rintro e' w' ⟨vn', vs', h, hn, hs, hb⟩
    exact clA_of (k := 14) h hn hs hb (by unfold cleanP; dsimp only; rw [hk]; rfl)
  · refine (clean_15 vn vs a b c d e f ns ss w hN hS).mono ?_
    rintro e' w' ⟨vn', vs', h, hn, hs, hb⟩
    exact clA_of (k := 15) h hn hs hb (by unfold cleanP; dsimp only; rw [hk]; rfl)
  · refine (clean_16 vn vs a b c d e f ns ss w hN hS).mono ?_
    rintro e' w' ⟨vn', vs', h, hn, hs, hb⟩
    exact clA_of (k := 16) h hn hs hb (by unfold cleanP; dsimp only; rw [hk]; rfl)
  · refine (clean_17 vn vs a b c d e f ns ss w hN hS).mono ?_
    rintro e' w' ⟨vn', vs', h, hn, hs, hb⟩
    exact clA_of (k := 17) h hn hs hb (by unfold cleanP; dsimp only; rw [hk]; rfl)
  · refine (clean_18 vn vs a b c d e f ns ss w hN hS).mono ?_
    rintro e' w' ⟨vn', vs', h, hn, hs, hb⟩
    exact clA_of (k := 18) h hn hs hb (by unfold cleanP; dsimp only; rw [hk]; rfl)
  · refine (clean_19 vn vs a b c d e f ns ss w hN hS).mono ?_
    rintro e' w' ⟨vn', vs', h, hn, hs, hb⟩
    exact clA_of (k := 19) h hn hs hb (by unfold cleanP; dsimp only; rw [hk]; rfl)
  · refine (clean_20 vn vs a b c d e f ns ss w hN hS).mono ?_
    rintro e' w' ⟨vn', vs', h, hn, hs, hb⟩
    exact clA_of (k := 20) h hn hs hb (by unfold cleanP; dsimp only; rw [hk]; rfl)
  · refine (clean_21 vn vs a b c d e f ns ss w hN hS).mono ?_
    rintro e' w' ⟨vn', vs', h, hn, hs, hb⟩
    exact clA_of (k := 21) h hn hs hb (by unfold cleanP; dsimp only; rw [hk]; rfl)
  · refine (clean_22 vn vs a b c d e f ns ss w hN hS).mono ?_
    rintro e' w' ⟨vn', vs', h, hn, hs, hb⟩
    exact clA_of (k := 22) h hn hs hb (by unfold cleanP; dsimp only; rw [hk]; rfl)
  · refine (clean_23 vn vs a b c d e f ns ss w hN hS).mono ?_
    rintro e' w' ⟨vn', vs', h, hn, hs, hb⟩
    exact clA_of (k := 23) h hn hs hb (by unfold cleanP; dsimp only; rw [hk]; rfl)
  · refine (clean_24 vn vs a b c d e f ns ss w hN hS).mono ?_
    rintro e' w' ⟨vn', vs', h, hn, hs, hb⟩
    exact clA_of (k := 24) h hn hs hb (by unfold cleanP; dsimp only; rw [hk]; rfl)
  · refine (clean_25 vn vs a b c d e f ns ss w hN hS).mono ?_
    rintro e' w' ⟨vn', vs', h, hn, hs, hb⟩
    exact clA_of (k := 25) h hn hs hb (by unfold cleanP; dsimp only; rw [hk]; rfl)
  · refine (clean_26 vn vs a b c d e f ns ss w hN hS).mono ?_
    rintro e' w' ⟨vn', vs', h, hn, hs, hb⟩
    exact clA_of (k := 26) h hn hs hb (by unfold cleanP; dsimp only; rw [hk]; rfl)
  · refine (clean_27 vn vs a b c d e f ns ss w hN hS).mono ?_
    rintro e' w' ⟨vn', vs', h, hn, hs, hb⟩
    exact clA_of (k := 27) h hn hs hb (by unfold cleanP; dsimp only; rw [hk]; rfl)
  · refine (clean_28 vn vs a b c d e f ns ss w hN hS).mono ?_
    rintro e' w' ⟨vn', vs', h, hn, hs, hb⟩
    exact clA_of (k := 28) h hn hs hb (by unfold cleanP; dsimp only; rw [hk]; rfl)
  · refine (clean_29 vn vs a b c d e f ns ss w hN hS).mono ?_
    rintro e' w' ⟨vn', vs', h, hn, hs, hb⟩
    exact clA_of (k := 29) h hn hs hb (by unfold cleanP; dsimp only; rw [hk]; rfl)
  · refine (clean_30 vn vs a b c d e f ns ss w hN hS).mono ?_
    rintro e' w' ⟨vn', vs', h, hn, hs, hb⟩
    exact clA_of (k := 30) h hn hs hb (by unfold cleanP; dsimp only; rw [hk]; rfl)
  · refine (clean_31 vn vs a b c d e f ns ss w hN hS).mono ?_
    rintro e' w' ⟨vn', vs', h, hn, hs, hb⟩
    exact clA_of (k := 31) h hn hs hb (by unfold cleanP; dsimp only; rw [hk]; rfl)
  · refine (clean_32 vn vs a b c d e f ns ss w hN hS).mono ?_
    rintro e' w' ⟨vn', vs', h, hn, hs, hb⟩
    exact clA_of (k := 32) h hn hs hb (by unfold cleanP; dsimp only; rw [hk]; rfl)
  · refine (clean_33 vn vs a b c d e f ns ss w hN hS).mono ?_
    rintro e' w' ⟨vn', vs', h, hn, hs, hb⟩
    exact clA_of (k := 33) h hn hs hb (by unfold cleanP; dsimp only; rw [hk]; rfl)
  · refine (clean_34 vn vs a b c d e f ns ss w hN hS).mono ?_
    rintro e' w' ⟨vn', vs', h, hn, hs, hb⟩
    exact clA_of (k := 34) h hn hs hb (by unfold cleanP; dsimp only; rw [hk]; rfl)
end Go.Proofs.Ytaomecinemmdgaa

/-
  CONTRACT of (shape).each: every word is handed on with what it is.
-/
import Derived.Test.YtaomecinemmdgaaRows
import Derived.Deep.DeepCutAuto
import Derived.Deep.CutBlock
import Derived.Deep.CutRange
import Derived.Test.YtaomecinemmdgaaGBase
import Derived.Test.YtaomecinemmdgaaGLns
import Derived.Test.YtaomecinemmdgaaSWords
import Derived.Test.YtaomecinemmdgaaSStepP
import Derived.Test.YtaomecinemmdgaaSCounted
set_option linter.unusedVariables false
set_option linter.unusedSimpArgs false
namespace Go.Proofs.Ytaomecinemmdgaa
open Go.RowKit Go.Lib
/-- The signs with those of options written out. -/
def signsW (F : ShapeR) : List UInt8 := if wantsL F = [111] then [111, 111, 111, 111, 111, 111] else wantsL F
def whatW (F : ShapeR) (i : Nat) : UInt8 := (signsW F).getD (min i ((signsW F).length - 1)) 0
set_option maxRecDepth 100000 in
set_option maxHeartbeats 4000000 in
theorem eachW_inv (f : FuncId) (cap : Array Value) (F : ShapeR) (v : Value) (ws : List ByteArray) (I : Nat → World → Prop) (R : Int → World → Prop) (w : World) (hent : Enters Try.prog f) (hS : StrsAt w v ws) (hF : (wantsL F).length ≤ 7) (hn : ws.length ≤ 1099511627776) (hne : 0 < ws.length → wantsL F ≠ [])
    (hrep : wantsL F = [111] → ∀ W, Calls Try.prog 84 #[.string ⟨#[111]⟩, .int .i64 6] W fun e w' => e = .returned (.string ⟨#[111, 111, 111, 111, 111, 111]⟩) ∧ Below W.heap.size W w')
    (h0 : ∀ w0, Below w.heap.size w w0 → I 0 w0) (hI : ∀ i wi, I i wi → StrsAt wi v ws)
    (step : ∀ i wi (hi : i < ws.length), I i wi → Calls Try.prog f (#[.int .i32 ((whatW F i).toNat : Int), .string ws[i]] ++ cap) wi fun e w' => ∃ z : Int, e = .returned (.int .i64 z) ∧ (z = 0 → I (i + 1) w') ∧ (z ≠ 0 → R z w'))
    (fin : ∀ wi, I ws.length wi → R 0 wi) :
    Calls Try.prog 70 #[.agg #[.string F.wd, .string (wantsS F)], v, .func (.func f) #[] cap] w fun e w' => ∃ z : Int, e = .returned (.int .i64 z) ∧ R z w' := by
  obtain ⟨A, c, rfl, -⟩ := id hS
  have HS := hide hS; have HST := hide step; have HFI := hide (And.intro fin (And.intro h0 hI)); clear hS step fin h0 hI
  have HREP := hide hrep; clear hrep
  have HNE := hide hne; clear hne
  have hws : (wantsS F).size = (wantsL F).length := by show (wantsL F).toArray.size = _; rw [List.size_toArray]
  have hb0 : Below w.heap.size w (w.alloc (.cells #[.string F.wd, .string (wantsS F)] 60)) := (Below.refl _ _).alloc (Nat.le_refl _) _
  go_enter Try.func70, Try.ntmps70
  have HB0 := hide hb0; clear hb0
  go_upto_if 15 with fail
  generalize (w.alloc (.cells #[.string F.wd, .string (wantsS F)] 60)) = w0 at *
  obtain ⟨S, hSg⟩ : ∃ S : ByteArray, Hid ((⟨(signsW F).toArray⟩ : ByteArray) = S) := ⟨_, Lib.hid rfl⟩
  have hSl : Hid (S.data.toList = signsW F) := Lib.hid (by rw [← hSg.out])
  have hSz : Hid (S.size = (signsW F).length) := Lib.hid (by rw [← hSg.out]; show (signsW F).toArray.size = _; rw [List.size_toArray])
  have hSn : Hid (0 < ws.length → 0 < S.size) := Lib.hid (fun h => by
    rw [hSz.out]; unfold signsW
    split
    · simp
    · exact List.length_pos_iff.2 ((unhide HNE) h))
  have hS7 : S.size ≤ 7 := by
    rw [hSz.out]; unfold signsW
    split
    · simp
    · exact hF
  go_cut [7] (fun s7 wx => s7 = .string S ∧ Below w.heap.size w wx)
  case first =>
    by_cases h1 : wantsL F = [111]
    · have e : wantsS F = ⟨#[111]⟩ := by unfold wantsS; rw [h1]
      have hS6 : S = ⟨#[111, 111, 111, 111, 111, 111]⟩ := by rw [← hSg.out]; unfold signsW; rw [if_pos h1]
      have y1 : ((wantsS F).toList == [111]) = true := by rw [e]; kernel_rfl
      have HR := (unhide HREP) h1 w0
      have HR2 := hide HR
      have HS6 := Lib.hid hS6
      clear h1 e HR hS6
      rw [y1]
      go_wp2_with fail
      refine (unhide HR2).mono ?_
      rintro e1 w1 ⟨rfl, hb1⟩
      have HB1 := hide ((unhide HB0).trans (hb1.mono (unhide HB0).size)); clear hb1
      go_wp2_with fail
      go_meet
      case rel => exact ⟨by rw [HS6.out], unhide HB1⟩
    · have hS6 : S = wantsS F := by rw [← hSg.out]; unfold signsW; rw [if_neg h1]; rfl
      have y1 : ((wantsS F).toList == [111]) = false := by
        have h := toList_ne (a := wantsS F) (b := ⟨#[111]⟩) (fun e => h1 (by have := congrArg (fun b : ByteArray => b.data.toList) e; exact this))
        rwa [show (⟨#[111]⟩ : ByteArray).toList = [111] from by kernel_rfl] at h
      have HS6 := Lib.hid hS6
      clear h1 hS6
      rw [y1]
      go_wp2_with fail
      go_meet
      case rel => exact ⟨by rw [HS6.out], unhide HB0⟩
  case rest =>
    obtain ⟨rfl, hbc⟩ := hcut
    have hI0 := (unhide HFI).2.1 wc hbc
    have HI0 := hide hI0; clear hI0 hbc HB0 HREP hSg
    go_wp2_with fail
    go_loopw [8, 9, 10, 11, 19] (fun _ _ _ _ i W => ∃ j : Nat, j ≤ ws.length ∧ i = .int .i64 (j : Int) ∧ I j W) (fun _ _ _ _ i _ => ws.length - (RowKit.intOf i).toNat)
    case atStart => exact ⟨0, by omega, rfl, unhide HI0⟩
    case round =>
      obtain ⟨j, hj, rfl, hIj⟩ := hrel
      clear HI0
      rcases Nat.lt_or_ge j ws.length with hlt | hge
      · have t0 : (0 : Int) ≤ (j : Int) := by omega
        have t1 : (j : Int) < (ws.length : Int) := by omega
        have hS0 := hSn.out (by omega)
        obtain ⟨a, rfl, hca⟩ := strs_at ((unhide HFI).2.2 j wr hIj) j hlt
        have hst := (unhide HST) j wr hlt hIj
        generalize ws[j] = x at *
        have HST2 := hide hst; have HIJ := hide hIj; clear hst hIj
        obtain ⟨n, hn1⟩ : ∃ n, S.size = n + 1 := ⟨S.size - 1, by omega⟩
        have hsub : (S.size : Int) - 1 = (n : Int) := by omega
        have hnS : n < S.size := by omega
        have hn2 : (n : Int) < (S.size : Int) := by omega
        have hn0 : (0 : Int) ≤ (n : Int) := by omega
        have hg : Hid (∀ m (h : m < S.size), min j (S.size - 1) = m → whatW F j = S[m]) := Lib.hid (fun m h e => by
          unfold whatW
          rw [← hSz.out, ← hSl.out, e, List.getD_eq_getElem?_getD, List.getElem?_eq_getElem (by rw [Array.length_toList]; exact h)]
          rfl)
        by_cases hmn : n < j
        · have hmi : (n : Int) < (j : Int) := by omega
          have hb8 : S[n].toNat < 256 := S[n].toNat_lt
          have hw : Hid (whatW F j = S[n]) := Lib.hid (hg.out n hnS (by omega))
          clear hn1
          go_wp2_with fail
          rw [hent, Oper.upon_enter]
          rw [hw.out] at HST2
          refine (unhide HST2).mono ?_
          rintro e1 w1 ⟨z, rfl, h1, h2⟩
          by_cases hz : z = 0
          · have H3 := hide (h1 hz)
            subst hz
            clear h1 h2
            go_wp2_with fail
            exact ⟨⟨j + 1, by omega, by go_num, unhide H3⟩, by simp [RowKit.intOf]; omega⟩
          · have H3 := hide (h2 hz)
            have z1 : (z == 0) = false := by rw [beq_eq_false_iff_ne]; exact hz
            clear h1 h2
            go_wp2_with fail
            go_ret
            exact ⟨z, rfl, unhide H3⟩
        · have hmi : ¬ (n : Int) < (j : Int) := by omega
          have hjS : j < S.size := by omega
          have hjs : (j : Int) < (S.size : Int) := by omega
          have hb8 : S[j].toNat < 256 := S[j].toNat_lt
          have hw : Hid (whatW F j = S[j]) := Lib.hid (hg.out j hjS (by omega))
          clear hn1
          go_wp2_with fail
          rw [hent, Oper.upon_enter]
          rw [hw.out] at HST2
          refine (unhide HST2).mono ?_
          rintro e1 w1 ⟨z, rfl, h1, h2⟩
          by_cases hz : z = 0
          · have H3 := hide (h1 hz)
            subst hz
            clear h1 h2
            go_wp2_with fail
            exact ⟨⟨j + 1, by omega, by go_num, unhide H3⟩, by simp [RowKit.intOf]; omega⟩
          · have H3 := hide (h2 hz)
            have z1 : (z == 0) = false := by rw [beq_eq_false_iff_ne]; exact hz
            clear h1 h2
            go_wp2_with fail
            go_ret
            exact ⟨z, rfl, unhide H3⟩
      · have t1 : ¬ (j : Int) < (ws.length : Int) := by omega
        obtain rfl : j = ws.length := by omega
        have hf := (unhide HFI).1 wr hIj
        have HF := hide hf; clear hf hIj
        go_wp2_with fail
        go_ret
        exact ⟨0, rfl, unhide HF⟩
end Go.Proofs.Ytaomecinemmdgaa

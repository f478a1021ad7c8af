/-
  CONTRACT of (shape).counted.
-/
import Derived.Test.YtaomecinemmdgaaRows
import Derived.Test.YtaomecinemmdgaaGBase
import Derived.Test.YtaomecinemmdgaaGLns
import Derived.Test.YtaomecinemmdgaaSWords
import Derived.Test.YtaomecinemmdgaaSStepP
set_option linter.unusedVariables false
set_option linter.unusedSimpArgs false
namespace Go.Proofs.Ytaomecinemmdgaa
open Go.RowKit Go.Lib
/-- Can so many words stand behind these signs? -/
def cntF : List UInt8 → Int → Bool
  | [], n => n == 0
  | c :: r, n => if c = 111 then cntF r (n - 6) else if c = 78 ∨ c = 83 then decide (0 ≤ n) else cntF r (n - 1)
theorem cntF_rep (c : UInt8) (h1 : c ≠ 111) (h2 : c ≠ 78) (h3 : c ≠ 83) (r : List UInt8) : ∀ (k : Nat) (n : Int), cntF (List.replicate k c ++ r) n = cntF r (n - k)
  | 0, n => by simp
  | k + 1, n => by
    rw [List.replicate_succ, List.cons_append, cntF, if_neg h1, if_neg (by rintro (h | h) <;> contradiction), cntF_rep c h1 h2 h3 r k (n - 1)]
    congr 1
    omega
theorem cnt_fits (k : Nat) (hk : k < 35) (h : Nat) : cntF (wantsL (shapeAt k)) (h : Int) = fits (shapeAt k) h := by
  have ht := shape_tab ⟨k, hk⟩
  simp only at ht
  generalize shapeAt k = F at *
  obtain ⟨h1, h2, h3, h4, -⟩ := ht
  unfold wantsL fits
  cases ho : F.opts with
  | true =>
    obtain ⟨ha, hb, hm⟩ := h1 ho
    simp only [if_true, hb, hm]
    show cntF [] ((h : Int) - 6) = _
    rw [cntF, Bool.eq_iff_iff]
    simp
    omega
  | false =>
    simp only [Bool.false_eq_true, if_false]
    rw [List.append_assoc, cntF_rep 110 (by decide) (by decide) (by decide), cntF_rep 115 (by decide) (by decide) (by decide)]
    by_cases hm1 : F.more = 1
    · simp only [hm1, if_true]
      show decide (0 ≤ (h : Int) - (F.a : Int) - (F.b : Int)) = _
      rw [Bool.eq_iff_iff]
      simp
      omega
    · by_cases hm2 : F.more = 2
      · simp only [hm2, if_true]
        show decide (0 ≤ (h : Int) - (F.a : Int) - (F.b : Int)) = _
        rw [Bool.eq_iff_iff]
        simp
        omega
      · have hm0 : F.more = 0 := by omega
        simp only [hm0]
        show cntF [] _ = _
        rw [cntF, Bool.eq_iff_iff]
        simp
        omega
set_option maxRecDepth 100000 in
set_option maxHeartbeats 4000000 in
theorem counted_any (k : Nat) (n : Int) (w : World) (hk : k < 35) (hn0 : -1000 ≤ n) (hn1 : n ≤ 1099511627776) :
    Calls Try.prog 69 #[.agg #[.string (shapeAt k).wd, .string (wantsS (shapeAt k))], .int .i64 n] w fun e w' => e = .returned (.bool (cntF (wantsL (shapeAt k)) n)) ∧ Below w.heap.size w w' := by
  have hwl := wants_len ⟨k, hk⟩
  simp only at hwl
  generalize shapeAt k = F at *
  go_enter Try.func69, Try.ntmps69
  go_wp2_with fail
  have hgi : (w.alloc (.cells #[.string F.wd, .string (wantsS F)] 60)).heap.size = w.heap.size + 1 := by simp
  have hb0 : Below w.heap.size w ((w.alloc (.cells #[.string F.wd, .string (wantsS F)] 60)).iter (wantsS F) 0) := ((Below.refl _ w).alloc (Nat.le_refl _) _).trans ((Below.refl w.heap.size (w.alloc (.cells #[.string F.wd, .string (wantsS F)] 60))).alloc (by simp) _)
  have hit0 : ((w.alloc (.cells #[.string F.wd, .string (wantsS F)] 60)).iter (wantsS F) 0).heap[w.heap.size + 1]? = some (.stringIter (wantsS F) 0) := by rw [← hgi]; exact World.iter_heap _ (wantsS F) 0
  have H0 := hide (And.intro hit0 hb0); clear hit0 hb0 hgi
  generalize ((w.alloc (.cells #[.string F.wd, .string (wantsS F)] 60)).iter (wantsS F) 0) = w3 at *
  go_loopw [1, 6] (fun m _ W => ∃ (j : Nat) (z : Int), j ≤ (wantsL F).length ∧ m = .int .i64 z ∧ Hid (cntF ((wantsL F).drop j) z = cntF (wantsL F) n) ∧ n - 6 * j ≤ z ∧ z ≤ n ∧ W.heap[w.heap.size + 1]? = some (.stringIter (wantsS F) j) ∧ Below w.heap.size w W) (fun _ _ W => (wantsL F).length - W.iterPos (w.heap.size + 1))
  case atStart => exact ⟨0, n, by omega, rfl, Lib.hid (by rw [List.drop_zero]), by omega, by omega, (unhide H0).1, (unhide H0).2⟩
  case round =>
    obtain ⟨j, z, hj, rfl, hI, hz1, hz2, hit, hb⟩ := hrel
    clear H0
    have hws : (wantsS F).size = (wantsL F).length := by show (wantsL F).toArray.size = _; rw [List.size_toArray]
    have hpos : Hid (wr.iterPos (w.heap.size + 1) = j) := Lib.hid (by simp [World.iterPos, hit])
    by_cases hp : j < (wantsS F).size
    · have hjl : j < (wantsL F).length := by omega
      obtain ⟨ch, hc⟩ : ∃ ch, Hid ((wantsL F)[j] = ch) := ⟨_, Lib.hid rfl⟩
      have hcin := wants_in (List.getElem_mem hjl)
      rw [hc.out] at hcin
      have hc128 : ch.toNat < 128 := by rcases hcin with rfl | rfl | rfl | rfl | rfl <;> decide
      have hd : Utf8.decode (wantsS F) j = (ch.toNat, 1) := by
        have h := decode_ascii (wantsS F) j hp (by show ((wantsL F)[j]).toNat < 128; rw [hc.out]; exact hc128)
        rw [h]
        show (((wantsL F)[j]).toNat, 1) = _
        rw [hc.out]
      have hnx : ∀ ty, (Instr.next (.pointer (some ⟨w.heap.size + 1, 0, none⟩)) true ty).run Try.prog wr = _ := fun ty => Lib.run_next_any_at wr (w.heap.size + 1) (wantsS F) j ty hit hp
      rw [hd] at hnx
      simp only at hnx
      have hI2 := hI.out
      rw [List.drop_eq_getElem_cons hjl, hc.out, cntF] at hI2
      have hit2 := Lib.iterAt_heap wr (w.heap.size + 1) (wantsS F) j (j + 1) hit
      have hb2 := Lib.below_iterAt hb (k := w.heap.size + 1) (Nat.le_succ _) (wantsS F) (j + 1)
      have H2 := hide (And.intro hit2 hb2)
      have HL := Lib.hid hjl; have HW := Lib.hid hwl
      clear hI hit hb hd hc128 hp hc hit2 hb2 hws hj hjl
      generalize wr.iterAt (w.heap.size + 1) (wantsS F) (j + 1) = W1 at *
      have hj7 : j ≤ 7 := by have := HL.out; omega
      have hr1 : IntKind.i64.wrap (z - 1) = z - 1 := IntWalk.i64_in _ (by omega)
      have hr6 : IntKind.i64.wrap (z - 6) = z - 6 := IntWalk.i64_in _ (by omega)
      have hms : Hid ((wantsL F).length - W1.iterPos (w.heap.size + 1) < (wantsL F).length - wr.iterPos (w.heap.size + 1)) := Lib.hid (by rw [hpos.out, iterPos_of (unhide H2).1]; have := HL.out; omega)
      rcases hcin with rfl | rfl | rfl | rfl | rfl
      · rw [if_neg (by decide), if_neg (by decide)] at hI2
        have HI := Lib.hid hI2; clear hI2
        go_wp2_with fail
        exact ⟨⟨j + 1, z - 1, HL.out, rfl, HI, by omega, by omega, (unhide H2).1, (unhide H2).2⟩, hms.out⟩
      · rw [if_neg (by decide), if_neg (by decide)] at hI2
        have HI := Lib.hid hI2; clear hI2
        go_wp2_with fail
        exact ⟨⟨j + 1, z - 1, HL.out, rfl, HI, by omega, by omega, (unhide H2).1, (unhide H2).2⟩, hms.out⟩
      · rw [if_pos rfl] at hI2
        have HI := Lib.hid hI2; clear hI2
        go_wp2_with fail
        exact ⟨⟨j + 1, z - 6, HL.out, rfl, HI, by omega, by omega, (unhide H2).1, (unhide H2).2⟩, hms.out⟩
      · rw [if_neg (by decide), if_pos (.inl rfl)] at hI2
        have HI := Lib.hid hI2; clear hI2
        go_wp2_with fail
        go_ret
        exact ⟨by rw [← HI.out]; rfl, (unhide H2).2⟩
      · rw [if_neg (by decide), if_pos (.inr rfl)] at hI2
        have HI := Lib.hid hI2; clear hI2
        go_wp2_with fail
        go_ret
        exact ⟨by rw [← HI.out]; rfl, (unhide H2).2⟩
    · have hnx : ∀ ty, (Instr.next (.pointer (some ⟨w.heap.size + 1, 0, none⟩)) true ty).run Try.prog wr = _ := fun ty => Lib.run_next_end_at wr (w.heap.size + 1) (wantsS F) j ty hit hp
      have hr := hI.out
      rw [List.drop_eq_nil_of_le (by omega), cntF] at hr
      have HR := Lib.hid hr; have HB := hide hb
      clear hI hr hb hit
      go_wp2_with fail
      go_ret
      exact ⟨by rw [← HR.out]; rfl, unhide HB⟩
end Go.Proofs.Ytaomecinemmdgaa

/-
  CONTRACT of the document's Text of a script.
-/
import Derived.Test.YtaomecinemmdgaaRows
import Derived.Test.YtaomecinemmdgaaGBase
import Derived.Test.YtaomecinemmdgaaSRLine
set_option linter.unusedVariables false
set_option linter.unusedSimpArgs false
namespace Go.Proofs.Ytaomecinemmdgaa
open Go.RowKit Go.Lib
/-- A step's nine cells. -/
def StepAt (w : World) (p : Addr) (s : StepR) : Prop :=
  ∃ vn vs a b c d e f, s.o = [a, b, c, d, e, f] ∧ w.cell? p = some (.int .i64 s.kind) ∧ w.cell? ⟨p.block, p.off + 1, none⟩ = some vn ∧ w.cell? ⟨p.block, p.off + 2, none⟩ = some vs ∧ w.cell? ⟨p.block, p.off + 3, none⟩ = some (.int .i64 a) ∧ w.cell? ⟨p.block, p.off + 4, none⟩ = some (.int .i64 b) ∧ w.cell? ⟨p.block, p.off + 5, none⟩ = some (.int .i64 c) ∧ w.cell? ⟨p.block, p.off + 6, none⟩ = some (.int .i64 d) ∧ w.cell? ⟨p.block, p.off + 7, none⟩ = some (.int .i64 e) ∧ w.cell? ⟨p.block, p.off + 8, none⟩ = some (.int .i64 f) ∧ IntsAt w vn s.ns ∧ StrsAt w vs s.ss
/-- A list of steps as the program reads it. -/
def StepsAt (w : World) (v : Value) (l : List StepR) : Prop := ∃ A cap, v = .slice A l.length cap ∧ ∀ j (h : j < l.length), ∃ p, A = some p ∧ StepAt w (p.add (j * 9)) l[j]
def StepOk (s : StepR) : Prop := (∀ n ∈ s.ns, In64 n) ∧ (∀ n ∈ s.o, In64 n) ∧ s.ns.length ≤ 1099511627776 ∧ sizeS s.ss ≤ 1048576
theorem scriptL_take (l : List StepR) (j : Nat) (h : j < l.length) : scriptL (l.take (j + 1)) = scriptL (l.take j) ++ lineP l[j] := by
  rw [List.take_succ_eq_append_getElem h, scriptL_snoc]
theorem scriptL_le (l : List StepR) (j : Nat) : (scriptL (l.take j)).length ≤ (scriptL l).length := by
  have h : scriptL l = scriptL (l.take j) ++ scriptL (l.drop j) := by
    unfold scriptL
    rw [← List.flatMap_append, List.take_append_drop]
  rw [h, List.length_append]; omega
def scriptB (l : List StepR) : ByteArray := ⟨(scriptL l).toArray⟩
set_option maxRecDepth 100000 in
set_option maxHeartbeats 4000000 in
theorem rscript_any (v : Value) (l : List StepR) (w : World) (hV : StepsAt w v l) (hok : ∀ s ∈ l, StepOk s) (hz : (scriptL l).length ≤ 1099511627776) (hn : l.length ≤ 1099511627776) :
    Calls Try.prog 10 #[v] w fun e' w' => e' = .returned (.string (scriptB l)) ∧ Below w.heap.size w w' := by
  obtain ⟨A, cap, rfl, hel⟩ := hV
  have HEL := hide hel; have HOK := hide hok; clear hel hok
  go_enter Try.func10, Try.ntmps10
  go_wp2_with fail
  obtain ⟨z, hz0⟩ : ∃ z, Hid (scriptB (l.take 0) = z) := ⟨_, Lib.hid rfl⟩
  have hze : (⟨#[]⟩ : ByteArray) = z := by rw [← hz0.out]; rfl
  go_loopw [3, 4] (fun s i W => ∃ j : Nat, j ≤ l.length ∧ i = .int .i64 (j : Int) ∧ s = .string (scriptB (l.take j)) ∧ Below w.heap.size w W) (fun _ i _ => l.length - (RowKit.intOf i).toNat)
  case atStart => exact ⟨0, by omega, rfl, by rw [hz0.out, hze], Below.refl _ _⟩
  case round =>
    clear hz0 hze
    obtain ⟨j, hj, rfl, rfl, hb⟩ := hrel
    rcases Nat.lt_or_ge j l.length with hlt | hge
    · have t1 : (j : Int) < (l.length : Int) := by omega
      have t0 : (0 : Int) ≤ (j : Int) := by omega
      obtain ⟨q, rfl, hst⟩ := unhide HEL j hlt
      have hso := unhide HOK _ (List.getElem_mem hlt)
      have hnx := Lib.hid (show scriptB (l.take (j + 1)) = scriptB (l.take j) ++ ⟨(lineP l[j]).toArray⟩ from by
        apply bs_eq
        unfold scriptB
        rw [ByteArray.data_append, Array.toList_append]
        simp only []
        exact scriptL_take l j hlt)
      have hsz : (scriptB (l.take j)).size + (lineP l[j]).length ≤ 1099511627776 := by
        have h1 := scriptL_le l (j + 1)
        rw [scriptL_take l j hlt, List.length_append] at h1
        have h2 : (scriptB (l.take j)).size = (scriptL (l.take j)).length := by show ((scriptL (l.take j)).toArray).size = _; rw [List.size_toArray]
        omega
      obtain ⟨T, hT⟩ : ∃ T, Hid (scriptB (l.take j) = T) := ⟨_, Lib.hid rfl⟩
      rw [hT.out] at hnx hsz ⊢
      generalize l[j] = s at *
      obtain ⟨kd, o, ns, ss⟩ := s
      obtain ⟨vn, vs, a, b, c, d, e, f, ho, p0, p1, p2, p3, p4, p5, p6, p7, p8, hI, hS⟩ := hst
      simp only at ho p0 hI hS
      subst ho
      have hbl := World.block_lt_of_cell? w _ p0
      have c0 := (hb.cell hbl).trans p0
      have c1 := (hb.cell (p := ⟨(q.add (j * 9)).block, (q.add (j * 9)).off + 1, none⟩) hbl).trans p1
      have c2 := (hb.cell (p := ⟨(q.add (j * 9)).block, (q.add (j * 9)).off + 2, none⟩) hbl).trans p2
      have c3 := (hb.cell (p := ⟨(q.add (j * 9)).block, (q.add (j * 9)).off + 3, none⟩) hbl).trans p3
      have c4 := (hb.cell (p := ⟨(q.add (j * 9)).block, (q.add (j * 9)).off + 4, none⟩) hbl).trans p4
      have c5 := (hb.cell (p := ⟨(q.add (j * 9)).block, (q.add (j * 9)).off + 5, none⟩) hbl).trans p5
      have c6 := (hb.cell (p := ⟨(q.add (j * 9)).block, (q.add (j * 9)).off + 6, none⟩) hbl).trans p6
      have c7 := (hb.cell (p := ⟨(q.add (j * 9)).block, (q.add (j * 9)).off + 7, none⟩) hbl).trans p7
      have c8 := (hb.cell (p := ⟨(q.add (j * 9)).block, (q.add (j * 9)).off + 8, none⟩) hbl).trans p8
      have hI' := hI.below hb; have hS' := hS.below hb
      obtain ⟨An, cn, rfl, -⟩ := id hI
      obtain ⟨As, cs, rfl, -⟩ := id hS
      clear p0 p1 p2 p3 p4 p5 p6 p7 p8 hI hS
      by_cases hk : 1 ≤ kd ∧ kd ≤ 34
      · obtain ⟨hk1, hk2⟩ := hk
        obtain ⟨k, rfl⟩ : ∃ k : Nat, kd = (k : Int) := ⟨kd.toNat, by omega⟩
        have hli := rline_any k a b c d e f _ _ ns ss wr (by omega) (by omega) hI' hS' hso.1 hso.2.1 hso.2.2.1 hso.2.2.2
        have hlp : lineP ⟨(k : Int), [a, b, c, d, e, f], ns, ss⟩ = joinSp (wordsD (shapeAt k) ⟨k, [a, b, c, d, e, f], ns, ss⟩) ++ [10] := by
          unfold lineP
          rw [if_pos ⟨hk1, hk2⟩]
          rfl
        rw [← hlp] at hli
        clear hlp
        generalize lineP ⟨(k : Int), [a, b, c, d, e, f], ns, ss⟩ = Q at *
        have hq : (⟨Q.toArray⟩ : ByteArray).size = Q.length := by show Q.toArray.size = _; rw [List.size_toArray]
        obtain ⟨Y, hY⟩ : ∃ Y : ByteArray, Hid (⟨Q.toArray⟩ = Y) := ⟨_, Lib.hid rfl⟩
        rw [hY.out] at hli hq hnx
        have y1 : ¬ 9223372036854775807 < T.size + Y.size := by omega
        have HLI := hide hli; have HB := hide hb; clear hli hb hI' hS' hso
        go_wp2_with fail
        refine (unhide HLI).mono ?_
        rintro e5 w5 ⟨rfl, hb5⟩
        have HB5 := hide ((unhide HB).trans (hb5.mono (unhide HB).size)); clear hb5 HB HLI
        go_wp2_with fail
        exact ⟨⟨j + 1, by omega, by go_num, by rw [hnx.out], unhide HB5⟩, by simp [RowKit.intOf]; omega⟩
      · have hlp : lineP ⟨kd, [a, b, c, d, e, f], ns, ss⟩ = [] := by
          unfold lineP
          rw [if_neg hk]
        rw [hlp] at hnx
        have hnx2 := Lib.hid (show scriptB (l.take (j + 1)) = T from by rw [hnx.out]; apply bs_eq; rw [ByteArray.data_append, Array.toList_append]; simp)
        have HB := hide hb; clear hb hI' hS' hso hnx hlp
        by_cases hk1 : 1 ≤ kd
        · have hk2 : ¬ kd ≤ 34 := fun h => hk ⟨hk1, h⟩
          go_wp2_with fail
          exact ⟨⟨j + 1, by omega, by go_num, by rw [hnx2.out], unhide HB⟩, by simp [RowKit.intOf]; omega⟩
        · go_wp2_with fail
          exact ⟨⟨j + 1, by omega, by go_num, by rw [hnx2.out], unhide HB⟩, by simp [RowKit.intOf]; omega⟩
    · have t1 : ¬ (j : Int) < (l.length : Int) := by omega
      rw [List.take_of_length_le hge]
      obtain ⟨T, hT⟩ : ∃ T, Hid (scriptB l = T) := ⟨_, Lib.hid rfl⟩
      rw [hT.out]
      have HB := hide hb; clear hb
      go_wp2_with fail
      go_ret
      exact ⟨by rw [hT.out]; rfl, unhide HB⟩
end Go.Proofs.Ytaomecinemmdgaa

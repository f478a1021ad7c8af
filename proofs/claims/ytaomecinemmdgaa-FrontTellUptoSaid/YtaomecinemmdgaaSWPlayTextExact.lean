/-
  THE WALK of the law PlayTextExact.
-/
import Derived.Test.YtaomecinemmdgaaRows
import Derived.Test.YtaomecinemmdgaaGBase
import Derived.Test.YtaomecinemmdgaaSRScript
import Derived.Test.YtaomecinemmdgaaSScript
import Derived.Test.YtaomecinemmdgaaSTwin
import Derived.Test.YtaomecinemmdgaaSOpenSteps
set_option linter.unusedVariables false
set_option linter.unusedSimpArgs false
namespace Go.Proofs.Ytaomecinemmdgaa
open Go.RowKit Go.Lib
theorem StepAt.below {w w' : World} {p : Addr} {s : StepR} (h : StepAt w p s) (hb : Below w.heap.size w w') : StepAt w' p s := by
  obtain ⟨vn, vs, a, b, c, d, e, f, ho, p0, p1, p2, p3, p4, p5, p6, p7, p8, hI, hS⟩ := h
  have hl := World.block_lt_of_cell? w _ p0
  have hc : ∀ i : Nat, w'.cell? ⟨p.block, p.off + i, none⟩ = w.cell? ⟨p.block, p.off + i, none⟩ := fun i => hb.cell (p := ⟨p.block, p.off + i, none⟩) hl
  exact ⟨vn, vs, a, b, c, d, e, f, ho, (hb.cell hl).trans p0, (hc 1).trans p1, (hc 2).trans p2, (hc 3).trans p3, (hc 4).trans p4, (hc 5).trans p5, (hc 6).trans p6, (hc 7).trans p7, (hc 8).trans p8, hI.below hb, hS.below hb⟩
theorem StepsAt.below {w w' : World} {v : Value} {l : List StepR} (h : StepsAt w v l) (hb : Below w.heap.size w w') : StepsAt w' v l := by
  obtain ⟨A, cap, rfl, he⟩ := h
  refine ⟨A, cap, rfl, fun j hj => ?_⟩
  obtain ⟨p, hp, hs⟩ := he j hj
  exact ⟨p, hp, hs.below hb⟩
theorem steps_o {w : World} {v : Value} {l : List StepR} (h : StepsAt w v l) : ∀ s ∈ l, s.o.length = 6 := by
  intro s hs
  obtain ⟨j, hj, rfl⟩ := List.mem_iff_getElem.1 hs
  obtain ⟨A, cap, -, he⟩ := h
  obtain ⟨p, -, vn, vs, a, b, c, d, e, f, ho, -⟩ := he j hj
  rw [ho]; rfl
theorem spaced_cons (x : ByteArray) (r : List ByteArray) : (spaced (x :: r)).length = x.size + 1 + (spaced r).length := by
  have h : spaced (x :: r) = (32 :: x.data.toList) ++ spaced r := by unfold spaced; rw [List.flatMap_cons]
  have h2 : x.data.toList.length = x.size := Array.length_toList
  rw [h, List.length_append, List.length_cons, h2]
theorem spaced_app (a b : List ByteArray) : (spaced (a ++ b)).length = (spaced a).length + (spaced b).length := by
  unfold spaced; rw [List.flatMap_append, List.length_append]
theorem spaced_le (B : Nat) : ∀ l : List ByteArray, (∀ x ∈ l, x.size ≤ B) → (spaced l).length ≤ (B + 1) * l.length
  | [], _ => by simp [spaced]
  | x :: r, h => by
    have h1 := spaced_le B r (fun y hy => h y (List.mem_cons_of_mem _ hy))
    have h2 := h x (List.mem_cons_self ..)
    rw [spaced_cons, List.length_cons, Nat.mul_succ]
    omega
theorem spaced_txt : ∀ (n : Nat) (ss : List ByteArray), (spaced ((List.range n).map (txtS ss))).length ≤ 3 * sizeS ss + 2 * n
  | 0, ss => by simp [spaced]
  | n + 1, ss => by
    rw [List.range_succ_eq_map, List.map_cons, List.map_map, spaced_cons]
    cases ss with
    | nil =>
      have h := spaced_txt n []
      have e : (List.range n).map (txtS [] ∘ Nat.succ) = (List.range n).map (txtS []) := by
        apply List.map_congr_left; intro i _; simp [txtS]
      rw [e]
      have h0 := escS_size (⟨#[]⟩ : ByteArray)
      have h1 : (txtS [] 0).size ≤ 1 := h0
      simp only [sizeS, List.foldr_nil] at h ⊢
      omega
    | cons x r =>
      have h := spaced_txt n r
      have e : (List.range n).map (txtS (x :: r) ∘ Nat.succ) = (List.range n).map (txtS r) := by
        apply List.map_congr_left; intro i _; simp [txtS]
      rw [e]
      have h1 : (txtS (x :: r) 0).size ≤ 3 * x.size + 1 := escS_size x
      have h2 : sizeS (x :: r) = x.size + 1 + sizeS r := rfl
      omega
theorem lineP_len (s : StepR) (hn : ∀ z ∈ s.ns, In64 z) (ho : ∀ z ∈ s.o, In64 z) (h6 : s.o.length = 6) : (lineP s).length ≤ 225 * stepW1 s := by
  unfold lineP
  split
  · rename_i hk
    have hs := shapeAt_small ⟨s.kind.toNat, by omega⟩
    simp only at hs
    generalize shapeAt s.kind.toNat = F at *
    have hw : F.wd.data.toList.length = F.wd.size := Array.length_toList
    have hA : (spaced (if F.opts = true then s.o.map decS else (List.range (cntN F s)).map (numS s.ns))).length ≤ 210 + 21 * s.ns.length := by
      split
      · have h := spaced_le 20 (s.o.map decS) (fun x hx => by obtain ⟨z, hz, rfl⟩ := List.mem_map.1 hx; exact decS_size (ho z hz))
        rw [List.length_map, h6] at h
        omega
      · have h := spaced_le 20 ((List.range (cntN F s)).map (numS s.ns)) (fun x hx => by obtain ⟨z, hz, rfl⟩ := List.mem_map.1 hx; exact decS_size (getD_in hn z))
        rw [List.length_map, List.length_range] at h
        have hc : cntN F s ≤ 4 + s.ns.length := by unfold cntN; split <;> omega
        omega
    have hB := spaced_txt (cntS F s) s.ss
    have hc : cntS F s ≤ 2 + s.ss.length := by unfold cntS; split <;> omega
    have hl := sizeS_len s.ss
    unfold wordsD stepW1
    rw [joinSp_cons, List.length_append, List.length_append, hw, spaced_app, List.length_singleton]
    omega
  · simp
theorem scriptL_len : ∀ l : List StepR, (∀ s ∈ l, ((∀ z ∈ s.ns, In64 z) ∧ ∀ z ∈ s.o, In64 z) ∧ s.o.length = 6) → (scriptL l).length ≤ 225 * stepsW l
  | [], _ => by simp [scriptL]
  | s :: r, h => by
    have h1 := scriptL_len r (fun x hx => h x (List.mem_cons_of_mem _ hx))
    have h2 := h s (List.mem_cons_self ..)
    have h3 := lineP_len s h2.1.1 h2.1.2 h2.2
    have e1 : scriptL (s :: r) = lineP s ++ scriptL r := by unfold scriptL; rw [List.flatMap_cons]
    have e2 : stepsW (s :: r) = stepW1 s + stepsW r := by unfold stepsW; rw [List.map_cons, List.sum_cons]
    rw [e1, e2, List.length_append]
    omega
set_option maxRecDepth 100000 in
set_option maxHeartbeats 1000000 in
theorem lawPlayText_any (v : Value) (l : List StepR) (w : World) (hV : StepsAt w v l) (hi : ∀ s ∈ l, (∀ z ∈ s.ns, In64 z) ∧ ∀ z ∈ s.o, In64 z) (hz : stepsW l ≤ 1048576) :
    Calls Try.prog 3 #[v] w fun e W' => e = .returned (.bool true) ∧ Below w.heap.size w W' := by
  have hn := stepsW_len l
  have h6 := steps_o hV
  have hL := scriptL_len l (fun s hs => ⟨hi s hs, h6 s hs⟩)
  have hm : ∀ s ∈ l, s.ns.length ≤ 1048576 ∧ s.ss.length ≤ 1048576 ∧ sizeS s.ss ≤ 1048576 := fun s hs => by
    have h1 := stepsW_mem hs
    have h2 := sizeS_len s.ss
    unfold stepW1 at h1
    omega
  have hok : ∀ s ∈ l, StepOk s := fun s hs => ⟨(hi s hs).1, (hi s hs).2, by have := hm s hs; omega, (hm s hs).2.2⟩
  have hT := twin_any v l w hV (fun s hs => by have := hm s hs; omega) (by omega)
  have HV := hide (And.intro hV (And.intro hok hm)); have HT := hide hT; have HZ := hide (And.intro hL (And.intro hz hn))
  clear hV hok hm hT hL hz hn h6 hi
  obtain ⟨A, cap, rfl, -⟩ := id (unhide HV).1
  go_enter Try.func3, Try.ntmps3
  go_wp2_with fail
  refine (unhide HT).mono ?_
  rintro e w1 ⟨v1, rfl, hV1, hb1⟩
  obtain ⟨A1, c1, rfl, -⟩ := id hV1
  have hS := script_any _ l w1 hV1 (fun s hs => ⟨(unhide HV).2.1 s hs, by have := (unhide HV).2.2 s hs; omega⟩) (by have := unhide HZ; omega) (by have := unhide HZ; omega)
  obtain ⟨T, hTT⟩ : ∃ T, Hid (scriptB l = T) := ⟨_, Lib.hid rfl⟩
  rw [hTT.out] at hS
  have HS := hide hS; have HB := hide hb1; clear hS hV1 hb1 HT
  go_wp2_with fail
  refine (unhide HS).mono ?_
  rintro e w2 ⟨rfl, hb2⟩
  have hb := (unhide HB).trans (hb2.mono (unhide HB).size)
  have hR := rscript_any _ l w2 ((unhide HV).1.below hb) (unhide HV).2.1 (by have := unhide HZ; omega) (by have := unhide HZ; omega)
  rw [hTT.out] at hR
  have HR := hide hR; have HB2 := hide hb; clear hR hb2 hb HS HB
  go_wp2_with fail
  refine (unhide HR).mono ?_
  rintro e w3 ⟨rfl, hb3⟩
  have HB3 := hide ((unhide HB2).trans (hb3.mono (unhide HB2).size)); clear hb3 HR HB2
  have hss : (T.toList == T.toList) = true := beq_self_eq_true _
  go_wp2_with fail
  go_ret
  exact ⟨rfl, unhide HB3⟩
set_option maxRecDepth 100000 in
theorem playTextExact_walk {H : Type} {enc : TypeId × Value → H} (W : World) (base : Nat) (v0 : Value) (d0 : DataW H) (p0 : List MemPlace) (o0 : Value.okWide Try.prog W .any base 22 v0) (h0 : DataW.Trod enc Try.prog W 0 (fun _ => true) true 22 v0 d0 p0) (l0 : ∀ x ∈ p0, x.block < W.heap.size) (hz : (DataW.weightsEach Try.prog [22] ([d0] : List (DataW H))).all (· ≤ reachBytes) = true) (hk : Rows.uptoBulkAll ([d0] : List (DataW H)) ≤ 1048576) (hsh : W.ShapedOpen Try.prog) :
    Calls Try.prog 3 #[v0] W fun e W' => e = .returned (.bool true) ∧ Below W.heap.size W W' := by
  obtain ⟨l, hV, hb, hi⟩ := open_steps o0 h0
  simp only [Rows.uptoBulkAll] at hk
  exact lawPlayText_any v0 l W hV hi (by omega)
end Go.Proofs.Ytaomecinemmdgaa

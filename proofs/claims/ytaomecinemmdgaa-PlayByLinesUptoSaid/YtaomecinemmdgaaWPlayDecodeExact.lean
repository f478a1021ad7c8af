/-
  THE WALK of the law PlayDecodeExact.
-/
import Derived.Test.YtaomecinemmdgaaRows
import Derived.Test.YtaomecinemmdgaaWd
import Derived.Test.YtaomecinemmdgaaDecode
import Derived.Test.YtaomecinemmdgaaRDecode
import Derived.Test.YtaomecinemmdgaaSameSt
set_option linter.unusedVariables false
set_option linter.unusedSimpArgs false
namespace Go.Proofs.Ytaomecinemmdgaa
open Go.RowKit Go.Lib
theorem stepsAt_below {w w' : World} {v : Value} {l : List StepR} (h : StepsAt w v l) (hb : Below w.heap.size w w') : StepsAt w' v l := by
  obtain ⟨A, cap, rfl, he⟩ := h
  refine ⟨A, cap, rfl, fun j hj => ?_⟩
  obtain ⟨p, hp, hs⟩ := he j hj
  refine ⟨p, hp, ?_⟩
  obtain ⟨vn, vs, a, b, c, d, e, f, ho, p0, p1, p2, p3, p4, p5, p6, p7, p8, hI, hS⟩ := hs
  have hl := World.block_lt_of_cell? w _ p0
  have hc : ∀ i : Nat, w'.cell? ⟨(p.add (j * 9)).block, (p.add (j * 9)).off + i, none⟩ = w.cell? ⟨(p.add (j * 9)).block, (p.add (j * 9)).off + i, none⟩ := fun i => hb.cell (p := ⟨(p.add (j * 9)).block, (p.add (j * 9)).off + i, none⟩) hl
  exact ⟨vn, vs, a, b, c, d, e, f, ho, (hb.cell hl).trans p0, (hc 1).trans p1, (hc 2).trans p2, (hc 3).trans p3, (hc 4).trans p4, (hc 5).trans p5, (hc 6).trans p6, (hc 7).trans p7, (hc 8).trans p8, hI.below hb, hS.below hb⟩
theorem stepO_small {ws : List ByteArray} {s : StepR} (h : stepO ws = .inr s) : s.ns.length ≤ ws.length ∧ s.ss.length ≤ ws.length := by
  unfold stepO at h
  simp only at h
  split at h
  · cases h
  · split at h
    · cases h
    · split at h
      · cases h
      · rename_i ns hN
        injection h with h
        subst h
        have hl := numsO_len hN
        rw [List.length_take, List.length_drop] at hl
        simp only [List.length_drop]
        refine ⟨?_, by omega⟩
        split
        · simp
        · omega
def SmallS (B : Nat) (s : StepR) : Prop := s.ns.length ≤ B ∧ s.ss.length ≤ B
theorem decF_small (B : Nat) : ∀ (LL : List (List UInt8)) (n : Nat) (acc : List StepR), (∀ l ∈ LL, l.length + 1 ≤ B) → (∀ s ∈ acc, SmallS B s) → (decF LL n acc).1.length ≤ acc.length + LL.length ∧ ∀ s ∈ (decF LL n acc).1, SmallS B s
  | [], n, acc, _, ha => by simp only [decF]; exact ⟨by simp, ha⟩
  | l :: r, n, acc, hL, ha => by
    have hr : ∀ x ∈ r, x.length + 1 ≤ B := fun x hx => hL x (List.mem_cons_of_mem _ hx)
    have hl := hL l (List.mem_cons_self ..)
    rw [decF]
    split
    · have h := decF_small B r (n + 1) acc hr ha
      refine ⟨?_, h.2⟩
      have := h.1
      rw [List.length_cons]; omega
    · split
      · exact ⟨by simp, by simp⟩
      · rename_i ws hw
        split
        · exact ⟨by simp, by simp⟩
        · rename_i s hs
          have h1 := stepO_small hs
          have h2 := (wdsL_size hw).2
          have h3 : (bsL l).size = l.length := by show l.toArray.size = _; rw [List.size_toArray]
          have h := decF_small B r (n + 1) (acc ++ [s]) hr (fun x hx => by
            rcases List.mem_append.1 hx with hx | hx
            · exact ha x hx
            · rw [List.mem_singleton] at hx
              subst hx
              exact ⟨by omega, by omega⟩)
          refine ⟨?_, h.2⟩
          have h4 := h.1
          rw [List.length_append, List.length_singleton] at h4
          rw [List.length_cons]; omega
theorem decO_small (t : ByteArray) (hs : t.size ≤ 1048577) : (decO t).1.length ≤ 562949953421312 ∧ ∀ s ∈ (decO t).1, s.ns.length ≤ 562949953421312 ∧ s.ss.length ≤ 562949953421312 := by
  have hll : t.data.toList.length = t.size := Array.length_toList
  have h := decF_small 2000000 (linL t.data.toList) 1 [] (fun l hl => by have := linL_mem hl; omega) (by simp)
  have h2 := linL_len t.data.toList
  unfold decO
  refine ⟨?_, fun s hs => ?_⟩
  · have := h.1; simp only [List.length_nil] at this; omega
  · have := h.2 s hs; unfold SmallS at this; omega
set_option maxRecDepth 100000 in
set_option maxHeartbeats 1000000 in
theorem lawPlayDecode_any (t : ByteArray) (w : World) (hs : t.size ≤ 1048577) (hM : MaxK w) :
    Calls Try.prog 5 #[.string t] w fun e W' => e = .returned (.bool true) ∧ Below w.heap.size w W' := by
  have hD := decode_any t w hs hM
  have HD := hide hD; clear hD hM
  go_enter Try.func5, Try.ntmps5
  go_wp2_with fail
  refine (unhide HD).mono ?_
  rintro e1 w1 ⟨⟨v1, es1, rfl, he1, hX1⟩, hb1⟩
  have hR := rdecode_any t w1 hs
  have hv1 := hX1.steps
  rw [he1] at hv1
  obtain ⟨A1, c1, rfl, -⟩ := id hv1
  have HR := hide hR; have H1 := hide (And.intro hv1 hb1); clear hR hv1 hb1 hX1 HD he1
  go_wp2_with fail
  refine (unhide HR).mono ?_
  rintro e2 w2 ⟨⟨v2, es2, rfl, he2, hX2⟩, hb2⟩
  have hv2 := hX2.steps
  rw [he2] at hv2
  obtain ⟨A2, c2, rfl, -⟩ := id hv2
  have hb := (unhide H1).2.trans (hb2.mono (unhide H1).2.size)
  have hsm := decO_small t hs
  have hS := sameSteps_eq _ _ (decO t).1 w2 hsm.1 hsm.2 (stepsAt_below (unhide H1).1 hb2) hv2
  have HS := hide hS; have HB := hide hb; clear hS hb hb2 hv2 hX2 he2 H1 HR hsm
  have y1 : (((decO t).2.2 : Int) == ((decO t).2.2 : Int)) = true := beq_self_eq_true _
  have y2 : (((decO t).2.1 : Int) == ((decO t).2.1 : Int)) = true := beq_self_eq_true _
  generalize (decO t).2.2 = z2 at *
  generalize (decO t).2.1 = z1 at *
  generalize (decO t).1 = L at *
  go_wp2_with fail
  refine (unhide HS).mono ?_
  rintro e3 w3 ⟨rfl, n, rfl⟩
  go_wp2_with fail
  go_ret
  exact ⟨rfl, below_drewN (unhide HB) n⟩
set_option maxRecDepth 100000 in
theorem playDecodeExact_walk {H : Type} {enc : TypeId × Value → H} (W : World) (base : Nat) (v0 : Value) (d0 : DataW H) (p0 : List MemPlace) (o0 : Value.okWide Try.prog W .any base 9 v0) (h0 : DataW.Trod enc Try.prog W 0 (fun _ => true) true 9 v0 d0 p0) (l0 : ∀ x ∈ p0, x.block < W.heap.size) (hz : (DataW.weightsEach Try.prog [9] ([d0] : List (DataW H))).all (· ≤ reachBytes) = true) (hk : Rows.uptoBulkAll ([d0] : List (DataW H)) ≤ 1048576) (hsh : W.ShapedOpen Try.prog) :
    Calls Try.prog 5 #[v0] W fun e W' => e = .returned (.bool true) ∧ Below W.heap.size W W' := by
  obtain ⟨s, rfl, rfl, -⟩ := Go.ChangeMaps.open_string Try.underlying9 o0 h0
  simp only [Rows.uptoBulkAll, Rows.uptoBulk, Array.length_toList] at hk
  have hsz : s.data.size = s.size := rfl
  exact lawPlayDecode_any s W (by omega) (max_k hsh)
end Go.Proofs.Ytaomecinemmdgaa

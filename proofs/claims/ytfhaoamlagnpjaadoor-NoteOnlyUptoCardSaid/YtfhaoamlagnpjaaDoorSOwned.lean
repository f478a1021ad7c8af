/-
  CONTRACT of the law's helper owned: has one of the keys made this signature of the text?
-/
import Derived.Test.YtfhaoamlagnpjaaDoorRows
import Derived.Deep.RegionHeld3
import Derived.Deep.DeepMust
import Derived.Outline
import Derived.Test.YtfhaoamlagnpjaaDoorGBase
import Derived.Test.YtfhaoamlagnpjaaDoorGKs
import Derived.Test.YtfhaoamlagnpjaaDoorGMacs
import Derived.Test.YtfhaoamlagnpjaaDoorGOp
import Derived.Test.YtfhaoamlagnpjaaDoorSOwner
set_option linter.unusedVariables false
set_option linter.unusedSimpArgs false
namespace Go.Proofs.YtfhaoamlagnpjaaDoor
open Go.RowKit Go.Lib
/-- A move of a walk through a region that draws its order: number i is taken first. -/
theorem held_take {P : Program} {ops : Array Oper} {Q : Exit → Act → World → Prop} {md : Region.Mode} {S : World → Prop} {i d : Nat} {oi : Oper} {v : Value} {fuel : Nat} {listed : Array Bool} {T : List Value} {D : List Deferred} {w : World} (hi : ops[i]? = some oi) (hd : oi.dst = some d)
    (hs : Region.noSelect ops = true) (hf : Region.free md ops listed i = true) (hr : (Region.ready md ops listed).contains i = true)
    (hQ : ∀ c a w, Q (.panic c) (a.put oi.dst v) w → Q (.panic c) a w) (hw : Region.wanted oi (yielded ops T.toArray) = true) (hy : ∀ w, S w → (execOp (Act.eval ⟨T.toArray, D⟩) oi).run P w = .ok (.value v) w) (hS : S w)
    (h : wpAnyH P md ops Q S fuel (listed.setIfInBounds i true) ⟨(T.set d v).toArray, D⟩ w) : wpAnyH P md ops Q S (fuel + 1) listed ⟨T.toArray, D⟩ w :=
  wpAnyH_take hi hs hf hr hQ (.inl ⟨hw, hy⟩) hS (by rw [hd]; simpa [Act.put] using h)
theorem held_skip {P : Program} {ops : Array Oper} {Q : Exit → Act → World → Prop} {md : Region.Mode} {S : World → Prop} {i d : Nat} {oi : Oper} {fuel : Nat} {listed : Array Bool} {T : List Value} {D : List Deferred} {w : World} (hi : ops[i]? = some oi) (hd : oi.dst = some d)
    (hs : Region.noSelect ops = true) (hf : Region.free md ops listed i = true) (hr : (Region.ready md ops listed).contains i = true)
    (hQ : ∀ c a w, Q (.panic c) (a.put oi.dst undef) w → Q (.panic c) a w) (hw : Region.wanted oi (yielded ops T.toArray) = false) (hS : S w)
    (h : wpAnyH P md ops Q S fuel (listed.setIfInBounds i true) ⟨(T.set d undef).toArray, D⟩ w) : wpAnyH P md ops Q S (fuel + 1) listed ⟨T.toArray, D⟩ w :=
  wpAnyH_take hi hs hf hr hQ (.inr ⟨hw, rfl⟩) hS (by rw [hd]; simpa [Act.put] using h)
def madeBy (t : ByteArray) (s : SigR) (k : KeyR) : Bool := decide (k.nm = s.nm) && (decide (kidB k = s.id) && decide (macB k.sc t = s.mc))
def ownedF (t : ByteArray) (ks : List KeyR) (s : SigR) : Bool := ks.any (madeBy t s)
/-- What stands in a round. -/
structure OdS (w : World) (g : Nat) (a : Addr) (kn ksc : ByteArray) (s : SigR) (W : World) : Prop where
  c0 : W.cell? a = some (.string kn)
  c1 : W.cell? ⟨a.block, a.off + 1, none⟩ = some (.string ksc)
  tab : PTab W
  sig : Blk W g 71 #[.string s.nm, .string s.id, .string s.mc]
  below : Below w.heap.size w W
theorem OdS.next {w W W' : World} {g : Nat} {a : Addr} {kn ksc : ByteArray} {s : SigR} (h : OdS w g a kn ksc s W) (hb : Below W.heap.size W W') : OdS w g a kn ksc s W' :=
  ⟨(hb.cell (World.block_lt_of_cell? W _ h.c0)).trans h.c0, (hb.cell (World.block_lt_of_cell? W _ h.c1)).trans h.c1, h.tab.next hb, h.sig.below hb h.sig.lt, h.below.trans (hb.mono h.below.size)⟩
theorem OdS.drew {w W : World} {g : Nat} {a : Addr} {kn ksc : ByteArray} {s : SigR} (h : OdS w g a kn ksc s W) : OdS w g a kn ksc s W.drew := h.next (Below.refl _ _).drew
theorem OdS.drewN {w W : World} {g : Nat} {a : Addr} {kn ksc : ByteArray} {s : SigR} (h : OdS w g a kn ksc s W) (n : Nat) : OdS w g a kn ksc s (W.drewN n) := h.next (below_drewN (Below.refl _ _) n)
theorem OdS.sigs {w W : World} {g : Nat} {a : Addr} {kn ksc : ByteArray} {s : SigR} (h : OdS w g a kn ksc s W) : W.cell? ⟨g, 0, none⟩ = some (.string s.nm) ∧ W.cell? ⟨g, 1, none⟩ = some (.string s.id) ∧ W.cell? ⟨g, 2, none⟩ = some (.string s.mc) := by
  have n0 := h.sig.cell 0; have n1 := h.sig.cell 1; have n2 := h.sig.cell 2
  simp only [List.getElem?_toArray, List.getElem?_cons_zero, List.getElem?_cons_succ] at n0 n1 n2
  exact ⟨n0, n1, n2⟩
set_option maxRecDepth 100000 in
set_option maxHeartbeats 4000000 in
theorem owned_any (v : Value) (ks : List KeyR) (s : SigR) (t : ByteArray) (w : World) (ht : t.size ≤ 1099511627776) (hks : ∀ k ∈ ks, k.nm.size ≤ 1099511627776 ∧ k.sc.size ≤ 1099511627776) (hn : ks.length ≤ 1099511627776) (hV : KeysAt w v ks) (hT : PTab w) :
    Calls Tryd.prog 36 #[v, sigV s, .string t] w fun e w' => e = .returned (.bool (ownedF t ks s)) ∧ Below w.heap.size w w' := by
  obtain ⟨A, c, rfl, -⟩ := id hV
  have hA1 : Blk (w.alloc (.cells #[.string s.nm, .string s.id, .string s.mc] 71)) w.heap.size 71 #[.string s.nm, .string s.id, .string s.mc] := Blk.new _ _ _
  have hA3 : Below w.heap.size w (w.alloc (.cells #[.string s.nm, .string s.id, .string s.mc] 71)) := (Below.refl _ _).alloc (Nat.le_refl _) _
  have HKS := hide hks; have HV := hide hV; have HT := hide hT; have H0 := hide (And.intro hA1 hA3); clear hks hV hT hA1 hA3
  unfold sigV
  go_enter Tryd.func36, Tryd.ntmps36
  go_wp2_with fail
  generalize hw0 : w.alloc (.cells #[.string s.nm, .string s.id, .string s.mc] 71) = w0 at *
  generalize hg0 : w.heap.size = g0
  clear hw0
  go_loopw [7] (fun i wr => ∃ k : Nat, k ≤ ks.length ∧ i = .int .i64 k ∧ Hid (ownedF t (ks.drop k) s = ownedF t ks s) ∧ Blk wr g0 71 #[.string s.nm, .string s.id, .string s.mc] ∧ Below w.heap.size w wr) (fun i _ => ks.length - (RowKit.intOf i).toNat)
  case atStart => exact ⟨0, by omega, rfl, Lib.hid rfl, hg0 ▸ (unhide H0).1, hg0 ▸ (unhide H0).2⟩
  case round =>
    clear H0
    obtain ⟨k, hk, rfl, hI, hA, hb⟩ := hrel
    rcases Nat.lt_or_ge k ks.length with hlt | hge
    · have t1 : (k : Int) < (ks.length : Int) := by omega
      obtain ⟨a, rfl, cw0, cw1⟩ := (unhide HV).at_ k hlt
      have hab : (a.add (k * 2)).block < w.heap.size := World.block_lt_of_cell? w _ cw0
      have c0 := (hb.cell hab).trans cw0; have c1 := (hb.cell (p := ⟨(a.add (k * 2)).block, (a.add (k * 2)).off + 1, none⟩) hab).trans cw1
      have hkk := unhide HKS _ (List.getElem_mem hlt)
      have hst : Hid (ownedF t ks s = if madeBy t s ks[k] = true then true else ownedF t (ks.drop (k + 1)) s) := by
        rw [Hid, ← hI.out, List.drop_eq_getElem_cons hlt]
        unfold ownedF
        rw [List.any_cons]
        cases madeBy t s ks[k] <;> rfl
      have hki : ∀ W, PTab W → Calls Tryd.prog 39 #[.string ks[k].nm, .string ks[k].sc] W fun e w' => e = .returned (.string (kidB ks[k])) ∧ Below W.heap.size W w' := fun W h => keyID_any ks[k].nm ks[k].sc W (by omega) (by omega) h.1 h.2
      have hsm : ∀ W, PTab W → Calls Tryd.prog 69 #[.string ks[k].sc, .string t] W fun e w' => e = .returned (.string (macB ks[k].sc t)) ∧ Below W.heap.size W w' := fun W h => mac_any ks[k].sc t W (by omega) (by omega) h.1 h.2
      have hmd : madeBy t s ks[k] = (decide (ks[k].nm = s.nm) && (decide (kidB ks[k] = s.id) && decide (macB ks[k].sc t = s.mc))) := rfl
      rw [hmd] at hst
      generalize kidB ks[k] = kid at *
      generalize macB ks[k].sc t = mb at *
      generalize ks[k] = key at *
      obtain ⟨kn, ksc⟩ := key
      simp only at hkk c0 c1 cw0 cw1 hst hki hsm
      have hS0 : OdS w g0 (a.add (k * 2)) kn ksc s wr := ⟨c0, c1, (unhide HT).next hb, hA, hb⟩
      obtain ⟨s0, s1, s2⟩ := hS0.sigs
      have HS0 := hide hS0; have HKI := hide hki; have HSM := hide hsm; clear hS0 hki hsm hkk hmd hA hb hI cw0 cw1
      by_cases hnm : kn = s.nm
      · rw [hnm] at c0 HS0 HKI
        by_cases hid : kid = s.id
        · rw [hid] at HKI
          have e1 : (s.nm.toList == s.nm.toList) = true := beq_self_eq_true _
          have e2 : (s.id.toList == s.id.toList) = true := beq_self_eq_true _
          by_cases hmc : mb = s.mc
          · have hres : Hid (ownedF t ks s = true) := by rw [Hid, hst.out, if_pos (by simp [hnm, hid, hmc])]
            rw [hmc] at HSM
            have e3 : (s.mc.toList == s.mc.toList) = true := beq_self_eq_true _
            clear hst hnm hid hmc
            go_wp2_with fail
            go_region_held3 (fun W => W.cell? (a.add (k * 2)) = some (.string s.nm) ∧ W.cell? ⟨(a.add (k * 2)).block, (a.add (k * 2)).off + 1, none⟩ = some (.string ksc) ∧ W.cell? ⟨g0, 0, none⟩ = some (.string s.nm) ∧ W.cell? ⟨g0, 1, none⟩ = some (.string s.id) ∧ W.cell? ⟨g0, 2, none⟩ = some (.string s.mc)) (refine ⟨?_, ?_, ?_, ?_, ?_⟩ <;> assumption) (first
              | (go_at_call 39; refine ((unhide HKI) wr.drew (unhide HS0).drew.tab).mono ?_; rintro e w2 ⟨rfl, hb2⟩; have hS2 := (unhide HS0).drew.next hb2; have c02 := hS2.c0; have c12 := hS2.c1; obtain ⟨s02, s12, s22⟩ := hS2.sigs; have HS2 := hide hS2; clear hS2 hb2)
              | (go_at_call 69; refine ((unhide HSM) w2 (unhide HS2).tab).mono ?_; rintro e w3 ⟨rfl, hb3⟩; have hS3 := (unhide HS2).next hb3; have c03 := hS3.c0; have c13 := hS3.c1; obtain ⟨s03, s13, s23⟩ := hS3.sigs; have HS3 := hide hS3; clear hS3 hb3))
            go_wp2_with fail
            go_ret
            exact ⟨by rw [hres.out]; rfl, hg0 ▸ (unhide HS3).below⟩
          · have hnx : Hid (ownedF t (ks.drop (k + 1)) s = ownedF t ks s) := by rw [Hid, hst.out, if_neg (by simp [hmc])]
            have e3 := toList_ne hmc
            clear hst hnm hid hmc
            go_wp2_with fail
            go_region_held3 (fun W => W.cell? (a.add (k * 2)) = some (.string s.nm) ∧ W.cell? ⟨(a.add (k * 2)).block, (a.add (k * 2)).off + 1, none⟩ = some (.string ksc) ∧ W.cell? ⟨g0, 0, none⟩ = some (.string s.nm) ∧ W.cell? ⟨g0, 1, none⟩ = some (.string s.id) ∧ W.cell? ⟨g0, 2, none⟩ = some (.string s.mc)) (refine ⟨?_, ?_, ?_, ?_, ?_⟩ <;> assumption) (first
              | (go_at_call 39; refine ((unhide HKI) wr.drew (unhide HS0).drew.tab).mono ?_; rintro e w2 ⟨rfl, hb2⟩; have hS2 := (unhide HS0).drew.next hb2; have c02 := hS2.c0; have c12 := hS2.c1; obtain ⟨s02, s12, s22⟩ := hS2.sigs; have HS2 := hide hS2; clear hS2 hb2)
              | (go_at_call 69; refine ((unhide HSM) w2 (unhide HS2).tab).mono ?_; rintro e w3 ⟨rfl, hb3⟩; have hS3 := (unhide HS2).next hb3; have c03 := hS3.c0; have c13 := hS3.c1; obtain ⟨s03, s13, s23⟩ := hS3.sigs; have HS3 := hide hS3; clear hS3 hb3))
            go_wp2_with fail
            go_roundw
            case rel => exact ⟨k + 1, by omega, by go_num, hnx, (unhide HS3).sig, (unhide HS3).below⟩
            case measure => simp [RowKit.intOf]; omega
        · have hnx : Hid (ownedF t (ks.drop (k + 1)) s = ownedF t ks s) := by rw [Hid, hst.out, if_neg (by simp [hid])]
          have e1 : (s.nm.toList == s.nm.toList) = true := beq_self_eq_true _
          have e2 := toList_ne hid
          clear hst hnm hid
          go_wp2_with fail
          refine wp_region_held_drew (S := (fun W => W.cell? (a.add (k * 2)) = some (.string s.nm) ∧ W.cell? ⟨(a.add (k * 2)).block, (a.add (k * 2)).off + 1, none⟩ = some (.string ksc) ∧ W.cell? ⟨g0, 0, none⟩ = some (.string s.nm) ∧ W.cell? ⟨g0, 1, none⟩ = some (.string s.id) ∧ W.cell? ⟨g0, 2, none⟩ = some (.string s.mc))) (by kernel_rfl) ⟨?_, ?_, ?_, ?_, ?_⟩ (fun hHeld => ?_)
          iterate 5 assumption
          refine held_take (i := 0) rfl rfl (by kernel_rfl) (by kernel_rfl) (by kernel_rfl) (fun _ _ _ h => h) (by rfl) (by intro w hSw; (try dsimp only at hSw); go_simp; try with_reducible rfl) (by assumption) ?_
          simp only [List.set_cons_zero, List.set_cons_succ]
          refine held_take (i := 1) rfl rfl (by kernel_rfl) (by kernel_rfl) (by kernel_rfl) (fun _ _ _ h => h) (by rfl) (by intro w hSw; (try dsimp only at hSw); go_simp; try with_reducible rfl) (by assumption) ?_
          simp only [List.set_cons_zero, List.set_cons_succ]
          refine held_take (i := 2) rfl rfl (by kernel_rfl) (by kernel_rfl) (by kernel_rfl) (fun _ _ _ h => h) (by rfl) (by intro w hSw; (try dsimp only at hSw); go_simp; try with_reducible rfl) (by assumption) ?_
          simp only [List.set_cons_zero, List.set_cons_succ]
          refine held_take (i := 3) rfl rfl (by kernel_rfl) (by kernel_rfl) (by kernel_rfl) (fun _ _ _ h => h) (by rfl) (by intro w hSw; (try dsimp only at hSw); go_simp; try with_reducible rfl) (by assumption) ?_
          simp only [List.set_cons_zero, List.set_cons_succ]
          refine held_take (i := 4) rfl rfl (by kernel_rfl) (by kernel_rfl) (by kernel_rfl) (fun _ _ _ h => h) (by rfl) (by intro w hSw; (try dsimp only at hSw); go_simp; try with_reducible rfl) (by assumption) ?_
          simp only [List.set_cons_zero, List.set_cons_succ]
          refine held_take (i := 5) rfl rfl (by kernel_rfl) (by kernel_rfl) (by kernel_rfl) (fun _ _ _ h => h) (by rfl) (by intro w hSw; (try dsimp only at hSw); go_simp; try with_reducible rfl) (by assumption) ?_
          simp only [List.set_cons_zero, List.set_cons_succ]
          refine held_take (i := 6) rfl rfl (by kernel_rfl) (by kernel_rfl) (by kernel_rfl) (fun _ _ _ h => h) (by rfl) (by intro w hSw; (try dsimp only at hSw); go_simp; try with_reducible rfl) (by assumption) ?_
          simp only [List.set_cons_zero, List.set_cons_succ]
          refine held_take (i := 7) rfl rfl (by kernel_rfl) (by kernel_rfl) (by kernel_rfl) (fun _ _ _ h => h) (by rfl) (by intro w hSw; (try dsimp only at hSw); go_simp; try with_reducible rfl) (by assumption) ?_
          simp only [List.set_cons_zero, List.set_cons_succ]
          refine held_take (i := 8) rfl rfl (by kernel_rfl) (by kernel_rfl) (by kernel_rfl) (fun _ _ _ h => h) (by rfl) (by intro w hSw; (try dsimp only at hSw); go_simp; try with_reducible rfl) (by assumption) ?_
          simp only [List.set_cons_zero, List.set_cons_succ]
          refine held_take (i := 9) rfl rfl (by kernel_rfl) (by kernel_rfl) (by kernel_rfl) (fun _ _ _ h => h) (by rfl) (by intro w hSw; (try dsimp only at hSw); go_simp; try with_reducible rfl) (by assumption) ?_
          simp only [List.set_cons_zero, List.set_cons_succ]
          refine held_take (i := 10) rfl rfl (by kernel_rfl) (by kernel_rfl) (by kernel_rfl) (fun _ _ _ h => h) (by rfl) (by intro w hSw; (try dsimp only at hSw); go_simp; try with_reducible rfl) (by assumption) ?_
          simp only [List.set_cons_zero, List.set_cons_succ]
          refine held_take (i := 11) rfl rfl (by kernel_rfl) (by kernel_rfl) (by kernel_rfl) (fun _ _ _ h => h) (by rfl) (by intro w hSw; (try dsimp only at hSw); go_simp; try with_reducible rfl) (by assumption) ?_
          simp only [List.set_cons_zero, List.set_cons_succ]
          refine held_take (i := 12) rfl rfl (by kernel_rfl) (by kernel_rfl) (by kernel_rfl) (fun _ _ _ h => h) (by rfl) (by intro w hSw; (try dsimp only at hSw); go_simp; try with_reducible rfl) (by assumption) ?_
          simp only [List.set_cons_zero, List.set_cons_succ]
          refine held_take (i := 13) rfl rfl (by kernel_rfl) (by kernel_rfl) (by kernel_rfl) (fun _ _ _ h => h) (by rfl) (by intro w hSw; (try dsimp only at hSw); go_simp; try with_reducible rfl) (by assumption) ?_
          simp only [List.set_cons_zero, List.set_cons_succ]
          refine held_take (i := 14) rfl rfl (by kernel_rfl) (by kernel_rfl) (by kernel_rfl) (fun _ _ _ h => h) (by rfl) (by intro w hSw; (try dsimp only at hSw); go_simp; try with_reducible rfl) (by assumption) ?_
          simp only [List.set_cons_zero, List.set_cons_succ]
          refine held_take (i := 15) rfl rfl (by kernel_rfl) (by kernel_rfl) (by kernel_rfl) (fun _ _ _ h => h) (by rfl) (by intro w hSw; (try dsimp only at hSw); go_simp; try with_reducible rfl) (by assumption) ?_
          simp only [List.set_cons_zero, List.set_cons_succ]
          refine held_take (i := 16) rfl rfl (by kernel_rfl) (by kernel_rfl) (by kernel_rfl) (fun _ _ _ h => h) (by rfl) (by intro w hSw; (try dsimp only at hSw); go_simp; try with_reducible rfl) (by assumption) ?_
          simp only [List.set_cons_zero, List.set_cons_succ]
          refine held_take (i := 17) rfl rfl (by kernel_rfl) (by kernel_rfl) (by kernel_rfl) (fun _ _ _ h => h) (by rfl) (by intro w hSw; (try dsimp only at hSw); go_simp; try with_reducible rfl) (by assumption) ?_
          simp only [List.set_cons_zero, List.set_cons_succ]
          refine held_take (i := 18) rfl rfl (by kernel_rfl) (by kernel_rfl) (by kernel_rfl) (fun _ _ _ h => h) (by rfl) (by intro w hSw; (try dsimp only at hSw); go_simp; try with_reducible rfl) (by assumption) ?_
          simp only [List.set_cons_zero, List.set_cons_succ]
          refine held_take (i := 20) rfl rfl (by kernel_rfl) (by kernel_rfl) (by kernel_rfl) (fun _ _ _ h => h) (by rfl) (by intro w hSw; (try dsimp only at hSw); go_simp; try with_reducible rfl) (by assumption) ?_
          simp only [List.set_cons_zero, List.set_cons_succ]
          refine held_take (i := 21) rfl rfl (by kernel_rfl) (by kernel_rfl) (by kernel_rfl) (fun _ _ _ h => h) (by rfl) (by intro w hSw; (try dsimp only at hSw); go_simp; try with_reducible rfl) (by assumption) ?_
          simp only [List.set_cons_zero, List.set_cons_succ]
          refine wpAnyH_ready (rs := [19]) (by kernel_rfl) (by simp) (AllReadyH.cons rfl (fun K hK => ?_) AllReadyH.nil)
          go_simp
          go_at_call 39
          refine ((unhide HKI) wr.drew (unhide HS0).drew.tab).mono ?_
          rintro e w2 ⟨rfl, hb2⟩
          have hS2 := (unhide HS0).drew.next hb2
          have c02 := hS2.c0; have c12 := hS2.c1
          obtain ⟨s02, s12, s22⟩ := hS2.sigs
          have HS2 := hide hS2; clear hS2 hb2
          refine hK.out _ _ ⟨c02, c12, s02, s12, s22⟩ (fun hHeld2 => ?_)
          clear hK K hHeld
          try simp only [Act.put, List.setIfInBounds_toArray, List.set_cons_zero, List.set_cons_succ]
          refine held_take (i := 22) rfl rfl (by kernel_rfl) (by kernel_rfl) (by kernel_rfl) (fun _ _ _ h => h) (by rfl) (by intro w hSw; (try dsimp only at hSw); go_simp; try with_reducible rfl) (by assumption) ?_
          simp only [List.set_cons_zero, List.set_cons_succ]
          refine held_take (i := 23) rfl rfl (by kernel_rfl) (by kernel_rfl) (by kernel_rfl) (fun _ _ _ h => h) (by rfl) (by intro w hSw; (try dsimp only at hSw); go_simp; try with_reducible rfl) (by assumption) ?_
          simp only [List.set_cons_zero, List.set_cons_succ]
          refine held_take (i := 24) rfl rfl (by kernel_rfl) (by kernel_rfl) (by kernel_rfl) (fun _ _ _ h => h) (by rfl) (by intro w hSw; (try dsimp only at hSw); go_simp; try with_reducible rfl) (by assumption) ?_
          simp only [List.set_cons_zero, List.set_cons_succ]
          refine held_skip (i := 25) rfl rfl (by kernel_rfl) (by kernel_rfl) (by kernel_rfl) (fun _ _ _ h => h) (by rfl) (by assumption) ?_
          simp only [List.set_cons_zero, List.set_cons_succ]
          refine held_skip (i := 26) rfl rfl (by kernel_rfl) (by kernel_rfl) (by kernel_rfl) (fun _ _ _ h => h) (by rfl) (by assumption) ?_
          simp only [List.set_cons_zero, List.set_cons_succ]
          refine held_skip (i := 27) rfl rfl (by kernel_rfl) (by kernel_rfl) (by kernel_rfl) (fun _ _ _ h => h) (by rfl) (by assumption) ?_
          simp only [List.set_cons_zero, List.set_cons_succ]
          refine held_skip (i := 28) rfl rfl (by kernel_rfl) (by kernel_rfl) (by kernel_rfl) (fun _ _ _ h => h) (by rfl) (by assumption) ?_
          simp only [List.set_cons_zero, List.set_cons_succ]
          refine held_skip (i := 29) rfl rfl (by kernel_rfl) (by kernel_rfl) (by kernel_rfl) (fun _ _ _ h => h) (by rfl) (by assumption) ?_
          simp only [List.set_cons_zero, List.set_cons_succ]
          refine held_skip (i := 30) rfl rfl (by kernel_rfl) (by kernel_rfl) (by kernel_rfl) (fun _ _ _ h => h) (by rfl) (by assumption) ?_
          simp only [List.set_cons_zero, List.set_cons_succ]
          refine held_skip (i := 31) rfl rfl (by kernel_rfl) (by kernel_rfl) (by kernel_rfl) (fun _ _ _ h => h) (by rfl) (by assumption) ?_
          simp only [List.set_cons_zero, List.set_cons_succ]
          refine held_skip (i := 32) rfl rfl (by kernel_rfl) (by kernel_rfl) (by kernel_rfl) (fun _ _ _ h => h) (by rfl) (by assumption) ?_
          simp only [List.set_cons_zero, List.set_cons_succ]
          refine held_skip (i := 33) rfl rfl (by kernel_rfl) (by kernel_rfl) (by kernel_rfl) (fun _ _ _ h => h) (by rfl) (by assumption) ?_
          simp only [List.set_cons_zero, List.set_cons_succ]
          refine held_skip (i := 34) rfl rfl (by kernel_rfl) (by kernel_rfl) (by kernel_rfl) (fun _ _ _ h => h) (by rfl) (by assumption) ?_
          simp only [List.set_cons_zero, List.set_cons_succ]
          refine held_take (i := 35) rfl rfl (by kernel_rfl) (by kernel_rfl) (by kernel_rfl) (fun _ _ _ h => h) (by rfl) (by intro w hSw; (try dsimp only at hSw); go_simp; try with_reducible rfl) (by assumption) ?_
          simp only [List.set_cons_zero, List.set_cons_succ]
          refine wpAnyH_done (by kernel_rfl) ?_ _
          go_wp2_with fail
          go_roundw
          case rel => exact ⟨k + 1, by omega, by go_num, hnx, (unhide HS2).sig, (unhide HS2).below⟩
          case measure => simp [RowKit.intOf]; omega

      · have hnx : Hid (ownedF t (ks.drop (k + 1)) s = ownedF t ks s) := by rw [Hid, hst.out, if_neg (by simp [hnm])]
        have e1 := toList_ne hnm
        clear hst hnm
        go_wp2_with fail
        go_quiet (fail)
        go_wp2_with fail
        go_roundw
        case rel => exact ⟨k + 1, by omega, by go_num, hnx, ((unhide HS0).drewN _).sig, ((unhide HS0).drewN _).below⟩
        case measure => simp [RowKit.intOf]; omega
    · have t1 : ¬ (k : Int) < (ks.length : Int) := by omega
      have hres : Hid (ownedF t ks s = false) := by rw [Hid, ← hI.out, List.drop_of_length_le hge]; rfl
      go_wp2_with fail
      go_ret
      exact ⟨by rw [hres.out]; rfl, hg0 ▸ hb⟩
end Go.Proofs.YtfhaoamlagnpjaaDoor

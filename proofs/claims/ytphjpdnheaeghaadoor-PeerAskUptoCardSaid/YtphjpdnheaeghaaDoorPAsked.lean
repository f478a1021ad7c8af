/-
  CONTRACT of peer.Asked.
-/
import Derived.Test.YtphjpdnheaeghaaDoorRows
import Derived.Test.YtphjpdnheaeghaaDoorWd
import Derived.Test.YtphjpdnheaeghaaDoorShelf
import Derived.Test.YtphjpdnheaeghaaDoorAskS
import Derived.Test.YtphjpdnheaeghaaDoorPAsk
import Derived.Test.YtphjpdnheaeghaaDoorRAsked
import Derived.Test.YtphjpdnheaeghaaDoorUnDec
import Derived.Test.YtphjpdnheaeghaaDoorDigs
set_option linter.unusedVariables false
set_option linter.unusedSimpArgs false
namespace Go.Proofs.YtphjpdnheaeghaaDoor
open Go.RowKit Go.Lib
def MaxK (w : World) : Prop := ∃ m : Int, w.cell? ⟨0, 0, none⟩ = some (.int .i64 m)
theorem MaxK.below {w w' : World} {B : Nat} (h : MaxK w) (hb : Below B w w') (hB : 0 < B) : MaxK w' := by
  obtain ⟨m, hm⟩ := h
  exact ⟨m, (hb.cell (p := ⟨0, 0, none⟩) hB).trans hm⟩
theorem MaxK.lt {w : World} (h : MaxK w) : 0 < w.heap.size := by
  obtain ⟨m, hm⟩ := h
  exact World.block_lt_of_cell? w _ hm
theorem max_k {w : World} (h : w.ShapedOpen Tryd.prog) : MaxK w :=
  Go.Proofs.cell_of_shapedOpen_int (zero := #[.int .i64 0]) (t := 3) h (of_decide_eq_true (by kernel_rfl)) (by kernel_rfl) rfl (by kernel_rfl) (by kernel_rfl) Tryd.underlying3
theorem cut1010 (s : ByteArray) (w : World) (hs : s.size ≤ 4000000000) (hM : MaxK w) : Calls Tryd.prog 17 #[.string s, .string ⟨#[10, 10]⟩] w fun e w' => e = .returned (.tuple #[.string ⟨(Lib.cut s.data.toList [10, 10]).1.toArray⟩, .string ⟨(Lib.cut s.data.toList [10, 10]).2.1.toArray⟩, .bool (Lib.cut s.data.toList [10, 10]).2.2]) ∧ Below w.heap.size w w' ∧ w'.heap.size = w.heap.size := by
  obtain ⟨m, hm⟩ := hM
  refine (Tryd.strings_Cut s ⟨#[10, 10]⟩ m w (by omega) hm).mono ?_
  rintro e w' ⟨rfl, n, rfl⟩
  exact ⟨rfl, below_drewN (Below.refl _ _) n, by simp⟩
theorem splitNl (s : ByteArray) (w : World) (hs : s.size ≤ 4000000000) (hM : MaxK w) : Calls Tryd.prog 18 #[.string s, .string ⟨#[10]⟩] w fun e w' => e = .returned (.slice (some ⟨w.heap.size, 0, none⟩) (nlB s).length (nlB s).length) ∧ w' = w.alloc (.cells ((nlB s).map Value.string).toArray 9) := by
  obtain ⟨m, hm⟩ := hM
  rw [nlB_length]
  exact Tryd.strings_Split s ⟨#[10]⟩ m w (by omega) hm (by decide)
/-- Behind the lines: the result's box, the lines. -/
structure PlX (w W : World) (ls : List ByteArray) : Prop where
  z : Blk W w.heap.size 24 (rqC 0 (.slice none 0 0) ⟨#[]⟩)
  l : Blk W (w.heap.size + 1) 9 (ls.map Value.string).toArray
  b : Below w.heap.size w W
theorem PlX.call {w W W' : World} {ls : List ByteArray} (h : PlX w W ls) (hb : Below W.heap.size W W') : PlX w W' ls :=
  ⟨h.z.below hb h.z.lt, h.l.below hb h.l.lt, h.b.trans (hb.mono h.b.size)⟩
theorem PlX.cell {w W : World} {ls : List ByteArray} (h : PlX w W ls) {j : Nat} (hj : j < ls.length) : W.cell? ⟨w.heap.size + 1, j, none⟩ = some (.string ls[j]) := by
  rw [h.l.cell j]; simp [hj]
/-- And the request. -/
structure PqX (w W : World) (g : Nat) (ls : List ByteArray) (old : Int) (vp : Value) (nt : ByteArray) (P : List ByteArray) : Prop where
  x : PlX w W ls
  s : Blk W g 24 (rqC old vp nt)
  g : w.heap.size + 2 ≤ g
  t : OwnT W (w.heap.size + 2) vp P
theorem PqX.call {w W W' : World} {g : Nat} {ls : List ByteArray} {old : Int} {vp : Value} {nt : ByteArray} {P : List ByteArray} (h : PqX w W g ls old vp nt P) (hb : Below W.heap.size W W') : PqX w W' g ls old vp nt P :=
  ⟨h.x.call hb, h.s.below hb h.s.lt, h.g, h.t.below hb⟩
theorem PqX.new {w W : World} {ls : List ByteArray} (h : PlX w W ls) (old : Int) (nt : ByteArray) : PqX w (W.alloc (.cells (rqC old (.slice none 0 0) nt) 24)) W.heap.size ls old (.slice none 0 0) nt [] :=
  ⟨⟨h.z.alloc _, h.l.alloc _, h.b.alloc h.b.size _⟩, Blk.new _ _ _, h.l.lt, OwnT.nil _ _⟩
theorem PqX.blk {w W W' : World} {g : Nat} {ls : List ByteArray} {old : Int} {vp : Value} {nt : ByteArray} {P : List ByteArray} {o : Obj} (h : PqX w W g ls old vp nt P) (hg : (W.alloc o).grownBy W' vp.ownBlock) : Blk W' g 24 (rqC old vp nt) :=
  (h.s.alloc o).grown hg (fun e => own_blk_ne (World.ownsRow.alloc h.t o) (h.s.alloc o) (by decide) e.symm)
theorem PqX.app {w W W' : World} {g : Nat} {ls : List ByteArray} {old : Int} {vp vp' : Value} {nt : ByteArray} {P P' : List ByteArray} {o : Obj} (h : PqX w W g ls old vp nt P) (hO : OwnT W' (w.heap.size + 2) vp' P') (hg : (W.alloc o).grownBy W' vp.ownBlock) :
    PqX w (W'.setCell ⟨g, 1, none⟩ vp') g ls old vp' nt P' := by
  have hgg := h.g
  have ht := World.ownsRow.alloc h.t o
  have hlow : ∀ q, q < w.heap.size + 2 → some q ≠ vp.ownBlock := fun q hq e => by have := (World.ownsRow.lt ht q e.symm).1; omega
  have hz1 := (h.x.z.alloc o).grown hg (hlow _ (by omega))
  have hl1 := (h.x.l.alloc o).grown hg (hlow _ (by omega))
  have hs1 := h.blk hg
  refine ⟨⟨Blk.far (p := ⟨g, 1, none⟩) hz1 (by simp; omega) _, Blk.far (p := ⟨g, 1, none⟩) hl1 (by simp; omega) _, ?_⟩, ?_, hgg, row_store_neQ hO (own_blk_ne hO hs1 (by decide)) _⟩
  · exact ((h.x.b.alloc h.x.b.size o).grown hg (by have := h.x.b.size; simp; omega) (fun q hq => by have := (World.ownsRow.lt ht q hq).1; omega)).setCell (p := ⟨g, 1, none⟩) (by show w.heap.size ≤ g; omega) _
  · have h2 := hs1.set_ 1 vp'
    simpa [rqC] using h2
theorem trim_size (l p : List UInt8) : (trimPrefix l p).length ≤ l.length := by
  unfold trimPrefix
  split
  · rw [List.length_drop]; omega
  · exact Nat.le_refl _
set_option maxRecDepth 100000 in
set_option maxHeartbeats 4000000 in
theorem pasked_any (b : ByteArray) (w : World) (hs : b.size ≤ 4000000000) (hM : MaxK w) :
    Calls Tryd.prog 7 #[.string b] w fun e w' => AskedR w' w.heap.size b e ∧ Below w.heap.size w w' := by
  have hb0 : Below w.heap.size w (w.alloc (.cells (rqC 0 (.slice none 0 0) ⟨#[]⟩) 24)) := (Below.refl _ _).alloc (Nat.le_refl _) _
  have hz0 := Blk.new w 24 (rqC 0 (.slice none 0 0) ⟨#[]⟩)
  have hM0 : MaxK (w.alloc (.cells (rqC 0 (.slice none 0 0) ⟨#[]⟩) 24)) := hM.below hb0 hM.lt
  have hcut := cut1010 b _ (by omega) hM0
  have H0 := hide (And.intro hb0 (And.intro hz0 hM0)); have HC := hide hcut
  have HM := hide hM
  clear hb0 hz0 hM0 hcut hM
  go_enter Tryd.func7, Tryd.ntmps7
  go_wp2_with fail
  refine (unhide HC).mono ?_
  rintro e1 w1 ⟨rfl, hb1, hh1⟩
  clear HC
  have hz1 := (unhide H0).2.1.below hb1 (unhide H0).2.1.lt
  have hw1 := (unhide H0).1.trans (hb1.mono (unhide H0).1.size)
  have hM1 := (unhide H0).2.2.below hb1 (unhide H0).2.2.lt
  have hh1' : w1.heap.size = w.heap.size + 1 := by rw [hh1]; simp
  have z0 := hz1.cell 0; have z1 := hz1.cell 1; have z2 := hz1.cell 2
  have fz0 := hz1.frozen 0; have fz1 := hz1.frozen 1; have fz2 := hz1.frozen 2
  simp only [rqC, List.getElem?_toArray, List.getElem?_cons_zero, List.getElem?_cons_succ] at z0 z1 z2
  have H1 := hide (And.intro hw1 (And.intro hz1 (And.intro hM1 hh1')))
  clear hz1 hw1 hM1 hh1 hh1' hb1 H0
  rcases cut_cases b.data.toList with ⟨hc, hc2⟩ | ⟨ca, cc, hc, hcl, hc2⟩
  · rw [hc]
    have hno := Lib.hid (ask_uncut hc2)
    clear hc hc2
    go_wp2_with fail
    (try simp only [Exit.inBlock, Exit.then])
    refine bodyPost_ret (results_req rfl _ _ w.heap.size _ _ _ rfl (blkq_put (unhide H1).2.1 _ _ _)) rfl ?_
    exact ⟨.inr ⟨hno.out, rfl⟩, belowq_put (unhide H1).1 (Nat.le_refl _) _ _ _⟩
  · rw [hc]
    have hP := ask_P hc2
    obtain ⟨X, hX⟩ : ∃ X, Hid ((⟨ca.toArray⟩ : ByteArray) = X) := ⟨_, Lib.hid rfl⟩
    obtain ⟨nt, hnt⟩ : ∃ nt, Hid ((⟨cc.toArray⟩ : ByteArray) = nt) := ⟨_, Lib.hid rfl⟩
    simp only
    rw [hX.out] at hP ⊢
    rw [hnt.out] at hP ⊢
    have hbl : b.size = ca.length + (cc.length + 2) := by
      have h := congrArg List.length hcl
      have hll : b.data.toList.length = b.size := Array.length_toList
      rw [hll] at h
      rw [h]; simp
    have hXz : X.size ≤ b.size := by rw [← hX.out]; show (List.toArray _).size ≤ _; rw [List.size_toArray]; omega
    have hntz : nt.size ≤ b.size := by rw [← hnt.out]; show (List.toArray _).size ≤ _; rw [List.size_toArray]; omega
    clear hc hc2 hcl hX hnt hbl
    have hsp := splitNl X w1 (by omega) (unhide H1).2.2.1
    have hlz := nlB_size X
    have hlen := nlB_len X
    obtain ⟨l, rest, hll⟩ : ∃ l rest, nlB X = l :: rest := by
      cases h : nlB X with
      | nil => have := nlB_length X; rw [h] at this; simp at this
      | cons l rest => exact ⟨l, rest, rfl⟩
    rw [hll] at hP hsp hlz hlen
    rw [(unhide H1).2.2.2] at hsp
    have HP := Lib.hid hP; have HSP := hide hsp; have HLZ := hide hlz
    simp only [List.length_cons] at hlen
    clear hP hsp hlz hll
    go_wp2_with fail
    refine (unhide HSP).mono ?_
    rintro e2 w2 ⟨rfl, rfl⟩
    have hX2 : PlX w (w1.alloc (.cells ((l :: rest).map Value.string).toArray 9)) (l :: rest) := ⟨(unhide H1).2.1.alloc _, by have h := Blk.new w1 9 ((l :: rest).map Value.string).toArray; rw [(unhide H1).2.2.2] at h; exact h, (unhide H1).1.alloc (unhide H1).1.size _⟩
    clear HSP H1 z0 z1 z2 fz0 fz1 fz2
    generalize (w1.alloc (.cells ((l :: rest).map Value.string).toArray 9)) = w2 at *
    have l0 := hX2.cell (j := 0) (by simp)
    simp only [List.getElem_cons_zero] at l0
    have hlz : l.size ≤ 4000000000 := by have := HLZ.out l (List.mem_cons_self ..); omega
    have hcp := Tryd.strings_CutPrefix l ⟨#[111, 108, 100, 32]⟩ w2
    obtain ⟨T, hT⟩ : ∃ T, Hid ((⟨(trimPrefix l.data.toList [111, 108, 100, 32]).toArray⟩ : ByteArray) = T) := ⟨_, Lib.hid rfl⟩
    have hTz : T.size ≤ 4000000000 := by
      rw [← hT.out]; show (List.toArray _).size ≤ _; rw [List.size_toArray]
      have h := trim_size l.data.toList [111, 108, 100, 32]
      have hll : l.data.toList.length = l.size := Array.length_toList
      omega
    rw [show (⟨#[111, 108, 100, 32]⟩ : ByteArray).data.toList = [111, 108, 100, 32] from rfl, hT.out] at hcp
    have hud := undec_any T w2 (by omega)
    have HCP := hide hcp; have HUD := hide hud; have HX2 := hide hX2
    have n1 : (0 : Int) < ((l :: rest).length : Int) := by simp only [List.length_cons]; omega
    have n2 : 0 < (l :: rest).length := by simp
    have n3 : (l :: rest).length = rest.length + 1 := rfl
    clear hcp hud hX2
    rw [n3] at *
    go_wp2_with fail
    refine (unhide HCP).mono ?_
    rintro e3 w3 ⟨rfl, hw3⟩
    cases hw3
    clear HCP
    go_wp2_with fail
    refine (unhide HUD).mono ?_
    rintro e4 w4 ⟨rfl, hb4⟩
    clear HUD
    have hX4 := (unhide HX2).call hb4
    have z0 := hX4.z.cell 0; have z1 := hX4.z.cell 1; have z2 := hX4.z.cell 2
    have fz0 := hX4.z.frozen 0; have fz1 := hX4.z.frozen 1; have fz2 := hX4.z.frozen 2
    simp only [rqC, List.getElem?_toArray, List.getElem?_cons_zero, List.getElem?_cons_succ] at z0 z1 z2
    have HX4 := hide hX4
    clear hX4 hb4 HX2 l0
    cases hp : hasPrefix l.data.toList [111, 108, 100, 32] with
    | false =>
      have hno := Lib.hid (ask_nopre HP.out hp)
      obtain ⟨zz, ze, huz⟩ : ∃ (zz : Int) (ze : Nat), undA T = .tuple #[.int .i64 zz, .int .i64 (ze : Int)] := by
        obtain ⟨z, hz⟩ := numQ_A T
        exact ⟨_, z, hz⟩
      rw [huz]
      go_wp2_with fail
      (try simp only [Exit.inBlock, Exit.then])
      refine bodyPost_ret (results_req rfl _ _ w.heap.size _ _ _ rfl (blkq_put (unhide HX4).z _ _ _)) rfl ?_
      exact ⟨.inr ⟨hno.out, rfl⟩, belowq_put (unhide HX4).b (Nat.le_refl _) _ _ _⟩
    | true =>
      cases hu : undV T with
      | none =>
        have hno := Lib.hid (ask_noold HP.out (by rw [hT.out]; exact hu))
        rw [undA_none hu]
        clear hu
        go_wp2_with fail
        (try simp only [Exit.inBlock, Exit.then])
        refine bodyPost_ret (results_req rfl _ _ w.heap.size _ _ _ rfl (blkq_put (unhide HX4).z _ _ _)) rfl ?_
        exact ⟨.inr ⟨hno.out, rfl⟩, belowq_put (unhide HX4).b (Nat.le_refl _) _ _ _⟩
      | some old =>
        have hK0 := Lib.hid (ask_K0 HP.out (by rw [hT.out]; exact hu))
        have HIN : Hid (In64P old) := Lib.hid (undV_some hu).2
        rw [undA_some hu]
        clear hu
        have hX5 := PqX.new (unhide HX4) old nt
        have HX5 := hide hX5
        clear hX5
        by_cases hn0 : rest.length = 0
        · go_wp2_with fail
          generalize hg5 : w4.heap.size = g5 at *
          generalize (w4.alloc (.cells #[.int .i64 old, .slice none 0 0, .string nt] 24)) = w5 at *
          clear z0 z1 z2 fz0 fz1 fz2 HX4
          go_loopw [54] (fun i W => ∃ (j : Nat) (vp : Value) (P : List ByteArray), i = .int .i64 (j : Int) ∧ j ≤ rest.length ∧ P.length = j ∧ Hid (AskK b old P j) ∧ PqX w W g5 (l :: rest) old vp nt P) (fun i _ => rest.length - (RowKit.intOf i).toNat)
          case atStart => exact ⟨0, _, [], rfl, Nat.zero_le _, rfl, hK0, unhide HX5⟩
          case round =>
            obtain ⟨j, vp, P, rfl, hj, hPl, hK, hX⟩ := hrel
            clear HX5
            obtain ⟨An, cn, rfl, -⟩ := id (ownT_strsQ hX.t)
            rw [hPl] at hX
            have r0 := hX.s.cell 0; have r1 := hX.s.cell 1; have r2 := hX.s.cell 2; have fr1 := hX.s.frozen 1
            have z0 := hX.x.z.cell 0; have z1 := hX.x.z.cell 1; have z2 := hX.x.z.cell 2; have fz0 := hX.x.z.frozen 0; have fz1 := hX.x.z.frozen 1; have fz2 := hX.x.z.frozen 2
            simp only [rqC, List.getElem?_toArray, List.getElem?_cons_zero, List.getElem?_cons_succ] at r0 r1 r2 z0 z1 z2
            have s0' : (0 : Int) ≤ (j : Int) := by omega
            rcases Nat.lt_or_ge j rest.length with hlt | hge
            · exact absurd hlt (by omega)
            · have q1 : ¬ (j : Int) < (rest.length : Int) := by omega
              have hje : rest.length = j := by omega
              have hJ := Lib.hid (ask_KJ HP.out (by rw [hje]; exact hK.out))
              have hS3 := ownT_strsQ hX.t
              have hA := pask_any ⟨old, P, nt⟩ (.slice An j cn) wr hS3 HIN.out (by simp only; omega) (by simp only; omega)
              have HX := hide hX; have HA := hide hA
              clear hX hS3 hA fz0 fz1 fz2
              go_wp2_with fail
              refine (unhide HA).mono ?_
              rintro e4 w5 ⟨rfl, hb5⟩
              clear HA r0 r1 r2 fr1 z0 z1 z2
              have hX5 := (unhide HX).call hb5
              have HX5 := hide hX5
              have r0 := hX5.s.cell 0; have r1 := hX5.s.cell 1; have r2 := hX5.s.cell 2
              have z0 := hX5.x.z.cell 0; have z1 := hX5.x.z.cell 1; have z2 := hX5.x.z.cell 2; have fz0 := hX5.x.z.frozen 0; have fz1 := hX5.x.z.frozen 1; have fz2 := hX5.x.z.frozen 2
              simp only [rqC, List.getElem?_toArray, List.getElem?_cons_zero, List.getElem?_cons_succ] at r0 r1 r2 z0 z1 z2
              clear hX5 hb5 HX
              by_cases hE : askE ⟨old, P, nt⟩ = 0
              · rw [askV_ok hE]
                have hOK := Lib.hid (askE_ok.1 hE)
                by_cases hts : askB ⟨old, P, nt⟩ = b
                · have hB2 := Lib.hid hts
                  have y1 : ((askB ⟨old, P, nt⟩).toList == b.toList) = true := by rw [hts]; exact beq_self_eq_true _
                  have y2 : (askB ⟨old, P, nt⟩).toList = b.toList := by rw [hts]
                  generalize askB ⟨old, P, nt⟩ = T9 at y1 y2 ⊢
                  clear hts hE
                  go_wp2_with fail
                  (try simp only [Exit.inBlock, Exit.then])
                  refine bodyPost_ret (results_req rfl _ _ w.heap.size _ _ _ rfl (blkq_put (unhide HX5).x.z _ _ _)) rfl ?_
                  refine ⟨.inl ⟨⟨old, P, nt⟩, .slice An j cn, hOK.out, hB2.out, rfl, rq_end (unhide HX5).t (by omega) _ _ _⟩, belowq_put (unhide HX5).x.b (Nat.le_refl _) _ _ _⟩
                · have hno := Lib.hid (ask_not hJ.out (.inr hts))
                  have y1 : ((askB ⟨old, P, nt⟩).toList == b.toList) = false := toList_ne hts
                  have y2 : ¬ (askB ⟨old, P, nt⟩).toList = b.toList := by rw [beq_eq_false_iff_ne] at y1; exact y1
                  clear hts hE
                  generalize askB ⟨old, P, nt⟩ = T9 at *
                  go_wp2_with fail
                  (try simp only [Exit.inBlock, Exit.then])
                  refine bodyPost_ret (results_req rfl _ _ w.heap.size _ _ _ rfl (blkq_put (unhide HX5).x.z _ _ _)) rfl ?_
                  exact ⟨.inr ⟨hno.out, rfl⟩, belowq_put (unhide HX5).x.b (Nat.le_refl _) _ _ _⟩
              · have hno := Lib.hid (ask_not hJ.out (.inl hE))
                rw [askV_no rfl hE]
                generalize askE ⟨old, P, nt⟩ = en at *
                have y1 : ((en : Int) == 0) = false := by rw [beq_eq_false_iff_ne]; omega
                have y2 : ¬ (en : Int) = 0 := by omega
                go_wp2_with fail
                (try simp only [Exit.inBlock, Exit.then])
                refine bodyPost_ret (results_req rfl _ _ w.heap.size _ _ _ rfl (blkq_put (unhide HX5).x.z _ _ _)) rfl ?_
                exact ⟨.inr ⟨hno.out, rfl⟩, belowq_put (unhide HX5).x.b (Nat.le_refl _) _ _ _⟩
        · have hn0' : Hid (¬ rest.length = 0) := Lib.hid hn0
          go_wp2_with fail
          generalize hg5 : w4.heap.size = g5 at *
          generalize (w4.alloc (.cells #[.int .i64 old, .slice none 0 0, .string nt] 24)) = w5 at *
          clear z0 z1 z2 fz0 fz1 fz2 HX4
          go_loopw [54] (fun i W => ∃ (j : Nat) (vp : Value) (P : List ByteArray), i = .int .i64 (j : Int) ∧ j ≤ rest.length ∧ P.length = j ∧ Hid (AskK b old P j) ∧ PqX w W g5 (l :: rest) old vp nt P) (fun i _ => rest.length - (RowKit.intOf i).toNat)
          case atStart => exact ⟨0, _, [], rfl, Nat.zero_le _, rfl, hK0, unhide HX5⟩
          case round =>
            obtain ⟨j, vp, P, rfl, hj, hPl, hK, hX⟩ := hrel
            clear HX5
            obtain ⟨An, cn, rfl, -⟩ := id (ownT_strsQ hX.t)
            rw [hPl] at hX
            have r0 := hX.s.cell 0; have r1 := hX.s.cell 1; have r2 := hX.s.cell 2; have fr1 := hX.s.frozen 1
            have z0 := hX.x.z.cell 0; have z1 := hX.x.z.cell 1; have z2 := hX.x.z.cell 2; have fz0 := hX.x.z.frozen 0; have fz1 := hX.x.z.frozen 1; have fz2 := hX.x.z.frozen 2
            simp only [rqC, List.getElem?_toArray, List.getElem?_cons_zero, List.getElem?_cons_succ] at r0 r1 r2 z0 z1 z2
            have s0' : (0 : Int) ≤ (j : Int) := by omega
            rcases Nat.lt_or_ge j rest.length with hlt | hge
            · have q1 : (j : Int) < (rest.length : Int) := by omega
              have qb : j ≤ 4000000000 := by omega
              have lc : wr.cell? ⟨w.heap.size + 1, 1 + j, none⟩ = some (.string rest[j]) := by
                have h := hX.x.cell (j := j + 1) (by simp only [List.length_cons]; omega)
                simp only [List.getElem_cons_succ] at h
                rw [Nat.add_comm 1 j]; exact h
              have hxz : rest[j].size ≤ 4000000000 := by have := HLZ.out rest[j] (List.mem_cons_of_mem _ (List.getElem_mem hlt)); omega
              have hu := unb_any rest[j] wr (by omega)
              cases hub : unb64V rest[j] with
              | none =>
                have hno := Lib.hid (ask_badline HP.out hlt hub)
                rw [unbA_none hub] at hu
                generalize rest[j] = x at *
                have HU := hide hu; have HX := hide hX
                clear hu hX hub
                go_wp2_with fail
                refine (unhide HU).mono ?_
                rintro e4 w5 ⟨rfl, hb5⟩
                clear HU z0 z1 z2 fz0 fz1 fz2
                have hX5 := (unhide HX).call hb5
                have z0 := hX5.x.z.cell 0; have z1 := hX5.x.z.cell 1; have z2 := hX5.x.z.cell 2; have fz0 := hX5.x.z.frozen 0; have fz1 := hX5.x.z.frozen 1; have fz2 := hX5.x.z.frozen 2
                simp only [rqC, List.getElem?_toArray, List.getElem?_cons_zero, List.getElem?_cons_succ] at z0 z1 z2
                have HX5 := hide hX5
                clear hX5 hb5 HX
                go_wp2_with fail
                (try simp only [Exit.inBlock, Exit.then])
                refine bodyPost_ret (results_req rfl _ _ w.heap.size _ _ _ rfl (blkq_put (unhide HX5).x.z _ _ _)) rfl ?_
                exact ⟨.inr ⟨hno.out, rfl⟩, belowq_put (unhide HX5).x.b (Nat.le_refl _) _ _ _⟩
              | some t =>
                have hK2 := Lib.hid (ask_Kn HP.out hlt hK.out hub)
                rw [unbA_some hub] at hu
                generalize rest[j] = x at *
                have HU := hide hu; have HX := hide hX
                clear hu hX hub z0 z1 z2 fz0 fz1 fz2 r0 r2
                go_wp2_with fail
                refine (unhide HU).mono ?_
                rintro e4 w5 ⟨rfl, hb5⟩
                clear HU r1 fr1
                have hX5 := (unhide HX).call hb5
                have hbase : Hid (w.heap.size + 2 ≤ w5.heap.size) := Lib.hid (by have := hX5.x.l.lt; omega)
                have hPz : Hid (P.length + 1 ≤ 4398046511104) := Lib.hid (by omega)
                have r1 := hX5.s.cell 1
                simp only [rqC, List.getElem?_toArray, List.getElem?_cons_zero, List.getElem?_cons_succ] at r1
                have HX5 := hide hX5
                clear hX5 hb5 HX
                go_wp2_with (at_builtin; go_must (refine wpList_appT1 w5 rfl _ _ rfl (unhide HX5).t rfl rfl hPz.out hbase.out ?_); intro v1 w6 hO1 hg1 hat1; obtain ⟨A1, c1, rfl, -⟩ := id (ownT_strsQ hO1); have hs6 := (unhide HX5).blk hg1; have k1 := hs6.cell 1; have l1 := hs6.frozen 1; simp only [rqC, List.getElem?_toArray, List.getElem?_cons_zero, List.getElem?_cons_succ] at k1; have H6 := hide ((unhide HX5).app hO1 hg1); clear hO1 hg1 hat1 hs6)
                exact ⟨⟨j + 1, .slice A1 (j + 1) c1, P ++ [t], by go_num, by omega, by simp [hPl], hK2, by have h := unhide H6; rw [show (P ++ [t]).length = j + 1 by simp [hPl]] at h; exact h⟩, by simp [RowKit.intOf]; omega⟩
            · have q1 : ¬ (j : Int) < (rest.length : Int) := by omega
              have hje : rest.length = j := by omega
              have hJ := Lib.hid (ask_KJ HP.out (by rw [hje]; exact hK.out))
              have hS3 := ownT_strsQ hX.t
              have hA := pask_any ⟨old, P, nt⟩ (.slice An j cn) wr hS3 HIN.out (by simp only; omega) (by simp only; omega)
              have HX := hide hX; have HA := hide hA
              clear hX hS3 hA fz0 fz1 fz2
              go_wp2_with fail
              refine (unhide HA).mono ?_
              rintro e4 w5 ⟨rfl, hb5⟩
              clear HA r0 r1 r2 fr1 z0 z1 z2
              have hX5 := (unhide HX).call hb5
              have HX5 := hide hX5
              have r0 := hX5.s.cell 0; have r1 := hX5.s.cell 1; have r2 := hX5.s.cell 2
              have z0 := hX5.x.z.cell 0; have z1 := hX5.x.z.cell 1; have z2 := hX5.x.z.cell 2; have fz0 := hX5.x.z.frozen 0; have fz1 := hX5.x.z.frozen 1; have fz2 := hX5.x.z.frozen 2
              simp only [rqC, List.getElem?_toArray, List.getElem?_cons_zero, List.getElem?_cons_succ] at r0 r1 r2 z0 z1 z2
              clear hX5 hb5 HX
              by_cases hE : askE ⟨old, P, nt⟩ = 0
              · rw [askV_ok hE]
                have hOK := Lib.hid (askE_ok.1 hE)
                by_cases hts : askB ⟨old, P, nt⟩ = b
                · have hB2 := Lib.hid hts
                  have y1 : ((askB ⟨old, P, nt⟩).toList == b.toList) = true := by rw [hts]; exact beq_self_eq_true _
                  have y2 : (askB ⟨old, P, nt⟩).toList = b.toList := by rw [hts]
                  generalize askB ⟨old, P, nt⟩ = T9 at y1 y2 ⊢
                  clear hts hE
                  go_wp2_with fail
                  (try simp only [Exit.inBlock, Exit.then])
                  refine bodyPost_ret (results_req rfl _ _ w.heap.size _ _ _ rfl (blkq_put (unhide HX5).x.z _ _ _)) rfl ?_
                  refine ⟨.inl ⟨⟨old, P, nt⟩, .slice An j cn, hOK.out, hB2.out, rfl, rq_end (unhide HX5).t (by omega) _ _ _⟩, belowq_put (unhide HX5).x.b (Nat.le_refl _) _ _ _⟩
                · have hno := Lib.hid (ask_not hJ.out (.inr hts))
                  have y1 : ((askB ⟨old, P, nt⟩).toList == b.toList) = false := toList_ne hts
                  have y2 : ¬ (askB ⟨old, P, nt⟩).toList = b.toList := by rw [beq_eq_false_iff_ne] at y1; exact y1
                  clear hts hE
                  generalize askB ⟨old, P, nt⟩ = T9 at *
                  go_wp2_with fail
                  (try simp only [Exit.inBlock, Exit.then])
                  refine bodyPost_ret (results_req rfl _ _ w.heap.size _ _ _ rfl (blkq_put (unhide HX5).x.z _ _ _)) rfl ?_
                  exact ⟨.inr ⟨hno.out, rfl⟩, belowq_put (unhide HX5).x.b (Nat.le_refl _) _ _ _⟩
              · have hno := Lib.hid (ask_not hJ.out (.inl hE))
                rw [askV_no rfl hE]
                generalize askE ⟨old, P, nt⟩ = en at *
                have y1 : ((en : Int) == 0) = false := by rw [beq_eq_false_iff_ne]; omega
                have y2 : ¬ (en : Int) = 0 := by omega
                go_wp2_with fail
                (try simp only [Exit.inBlock, Exit.then])
                refine bodyPost_ret (results_req rfl _ _ w.heap.size _ _ _ rfl (blkq_put (unhide HX5).x.z _ _ _)) rfl ?_
                exact ⟨.inr ⟨hno.out, rfl⟩, belowq_put (unhide HX5).x.b (Nat.le_refl _) _ _ _⟩
end Go.Proofs.YtphjpdnheaeghaaDoor

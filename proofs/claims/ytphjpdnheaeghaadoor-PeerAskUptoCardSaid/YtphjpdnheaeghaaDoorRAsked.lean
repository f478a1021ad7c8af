/-
  CONTRACT of annalsref22.Asked.
-/
import Derived.Test.YtphjpdnheaeghaaDoorRows
import Derived.Test.YtphjpdnheaeghaaDoorWd
import Derived.Test.YtphjpdnheaeghaaDoorAskQ
import Derived.Test.YtphjpdnheaeghaaDoorRPAsk
import Derived.Test.YtphjpdnheaeghaaDoorRPLine
import Derived.Test.YtphjpdnheaeghaaDoorRLines
import Derived.Test.YtphjpdnheaeghaaDoorRUnB
set_option linter.unusedVariables false
set_option linter.unusedSimpArgs false
namespace Go.Proofs.YtphjpdnheaeghaaDoor
open Go.RowKit Go.Lib
theorem rundec_q (x : ByteArray) (w : World) (hx : x.size ≤ 1099511627776) : Calls Tryd.prog 23 #[.string x] w fun e w' => (∃ z : Nat, e = .returned (.tuple #[.int .i64 (numQ x), .int .i64 (z : Int)])) ∧ w = w' := by
  obtain ⟨z, hz⟩ := numQ_A x
  refine (rundec_any x w hx).mono ?_
  rintro e w' ⟨rfl, rfl⟩
  exact ⟨⟨z, by rw [hz]⟩, rfl⟩
theorem runb_q (x : ByteArray) (w : World) (hx : x.size ≤ 1099511627776) : Calls Tryd.prog 24 #[.string x] w fun e w' => (∃ z : Nat, e = .returned (.tuple #[.string (hshQ x), .int .i64 (z : Int)])) ∧ Below w.heap.size w w' := by
  obtain ⟨z, hz⟩ := hshQ_A x
  refine (runb_any x w hx).mono ?_
  rintro e w' ⟨rfl, hb⟩
  exact ⟨⟨z, by rw [hz]⟩, hb⟩
/-- The cells of a request. -/
abbrev rqC (old : Int) (vp : Value) (nt : ByteArray) : Array Value := #[.int .i64 old, vp, .string nt]
theorem results_req {fn : Func} {p u : Tmp} (h : fn.results = #[.cell p 24, .tmp u]) (tmps : Array Value) (w : World) (g : Nat) (a b c : Value) (hp : tmps.getD p undef = .pointer (some ⟨g, 0, none⟩)) (hB : Blk w g 24 #[a, b, c]) :
    (results fn tmps).run Tryd.prog w = .ok (.tuple #[.agg #[a, b, c], tmps.getD u undef]) w := by
  rw [results_cell_tmp h, hp]
  have hl := run_loadVar_row (P := Tryd.prog) w g 24 24 #[a, b, c] (0, 0) _ hB Tryd.underlying24 rfl (by kernel_rfl)
  simp [asAddr, hl, Result.andThen]
theorem blkq_put {w : World} {q : Nat} {t : TypeId} {a b c : Value} (hB : Blk w q t #[a, b, c]) (a' b' c' : Value) : Blk (((w.setCell ⟨q, 0, none⟩ a').setCell ⟨q, 1, none⟩ b').setCell ⟨q, 2, none⟩ c') q t #[a', b', c'] := by
  have h2 := ((hB.set_ 0 a').set_ 1 b').set_ 2 c'
  simpa using h2
theorem belowq_put {B : Nat} {u w : World} {q : Nat} (hB : Below B u w) (hq : B ≤ q) (a' b' c' : Value) : Below B u (((w.setCell ⟨q, 0, none⟩ a').setCell ⟨q, 1, none⟩ b').setCell ⟨q, 2, none⟩ c') := ((hB.setCell (p := ⟨q, 0, none⟩) hq a').setCell (p := ⟨q, 1, none⟩) hq b').setCell (p := ⟨q, 2, none⟩) hq c'
theorem row_store_neQ {w : World} {base : Nat} {e : TypeId} {size n : Nat} {v : Value} {xs : List Value} (h : w.ownsRow base e size v n xs) {g j : Nat} (hne : v.ownBlock ≠ some g) (u : Value) : (w.setCell ⟨g, j, none⟩ u).ownsRow base e size v n xs := by
  refine ⟨h.1, ?_⟩
  rcases h.2 with h2 | ⟨q, cap, cur, rfl, hb1, hg, rest⟩
  · exact .inl h2
  · exact .inr ⟨q, cap, cur, rfl, hb1, (Below.heap_setCell w ⟨g, j, none⟩ u q (fun e => hne (by simp [Value.ownBlock]; exact e))).trans hg, rest⟩
theorem ownT_monoQ {w : World} {base base' : Nat} {v : Value} {es : List ByteArray} (h : OwnT w base v es) (hb : base' ≤ base) : OwnT w base' v es := by
  refine ⟨h.1, ?_⟩
  rcases h.2 with h2 | ⟨g, cap, cur, h1, h2, h3⟩
  · exact .inl h2
  · exact .inr ⟨g, cap, cur, h1, by omega, h3⟩
theorem ownT_strsQ {w : World} {base : Nat} {v : Value} {l : List ByteArray} (h : OwnT w base v l) : StrsAt w v l := by
  rcases id h.2 with ⟨rfl, hn⟩ | ⟨g, cap, cur, rfl, -, -, -⟩
  · obtain rfl := List.eq_nil_of_length_eq_zero hn
    exact ⟨none, 0, rfl, fun j hj => absurd hj (by simp)⟩
  · refine ⟨_, cap, rfl, fun j hj => ⟨_, rfl, ?_⟩⟩
    have hadd : (⟨g, 0, none⟩ : Addr).add j = ⟨g, j, none⟩ := by unfold Addr.add; split <;> simp_all
    rw [hadd, World.ownsRow.cellAt h j (by omega)]
    simp [hj]
/-- A request that is being read: the result's box, the request's own, its proof. -/
structure RqX (w W : World) (old : Int) (vp : Value) (nt : ByteArray) (P : List ByteArray) : Prop where
  z : Blk W w.heap.size 24 (rqC 0 (.slice none 0 0) ⟨#[]⟩)
  s : Blk W (w.heap.size + 1) 24 (rqC old vp nt)
  t : OwnT W (w.heap.size + 2) vp P
  b : Below w.heap.size w W
theorem RqX.call {w W W' : World} {old : Int} {vp : Value} {nt : ByteArray} {P : List ByteArray} (h : RqX w W old vp nt P) (hb : Below W.heap.size W W') : RqX w W' old vp nt P :=
  ⟨h.z.below hb h.z.lt, h.s.below hb h.s.lt, h.t.below hb, h.b.trans (hb.mono h.b.size)⟩
theorem RqX.app {w W W' : World} {old : Int} {vp vp' : Value} {nt : ByteArray} {P P' : List ByteArray} {o : Obj} (h : RqX w W old vp nt P) (hO : OwnT W' (w.heap.size + 2) vp' P') (hg : (W.alloc o).grownBy W' vp.ownBlock) :
    RqX w (W'.setCell ⟨w.heap.size + 1, 1, none⟩ vp') old vp' nt P' := by
  have ht := World.ownsRow.alloc h.t o
  have hz1 : Blk W' w.heap.size 24 (rqC 0 (.slice none 0 0) ⟨#[]⟩) := (h.z.alloc o).grown hg (fun e => own_blk_ne ht (h.z.alloc o) (by decide) e.symm)
  have hs1 : Blk W' (w.heap.size + 1) 24 (rqC old vp nt) := (h.s.alloc o).grown hg (fun e => own_blk_ne ht (h.s.alloc o) (by decide) e.symm)
  refine ⟨Blk.far (p := ⟨w.heap.size + 1, 1, none⟩) hz1 (by simp) _, ?_, row_store_neQ hO (own_blk_ne hO hs1 (by decide)) _, ?_⟩
  · have h2 := hs1.set_ 1 vp'
    simpa [rqC] using h2
  · exact ((h.b.alloc h.b.size o).grown hg (by have := h.b.size; simp; omega) (fun q hq => by have := (World.ownsRow.lt ht q hq).1; omega)).setCell (p := ⟨w.heap.size + 1, 1, none⟩) (by show w.heap.size ≤ w.heap.size + 1; omega) _
theorem RqX.blk {w W W' : World} {old : Int} {vp : Value} {nt : ByteArray} {P : List ByteArray} {o : Obj} (h : RqX w W old vp nt P) (hg : (W.alloc o).grownBy W' vp.ownBlock) : Blk W' (w.heap.size + 1) 24 (rqC old vp nt) :=
  (h.s.alloc o).grown hg (fun e => own_blk_ne (World.ownsRow.alloc h.t o) (h.s.alloc o) (by decide) e.symm)
theorem RqX.old_ {w W : World} {vp : Value} {nt : ByteArray} {P : List ByteArray} {old : Int} (h : RqX w W old vp nt P) (z : Int) : RqX w (W.setCell ⟨w.heap.size + 1, 0, none⟩ (.int .i64 z)) z vp nt P :=
  ⟨Blk.far (p := ⟨w.heap.size + 1, 0, none⟩) h.z (by simp) _, by have h2 := h.s.set_ 0 (.int .i64 z); simpa [rqC] using h2, row_store_neQ h.t (own_blk_ne h.t h.s (by decide)) _, h.b.setCell (p := ⟨w.heap.size + 1, 0, none⟩) (by show w.heap.size ≤ w.heap.size + 1; omega) _⟩
theorem RqX.nt_ {w W : World} {vp : Value} {nt : ByteArray} {P : List ByteArray} {old : Int} (h : RqX w W old vp nt P) (z : ByteArray) : RqX w (W.setCell ⟨w.heap.size + 1, 2, none⟩ (.string z)) old vp z P :=
  ⟨Blk.far (p := ⟨w.heap.size + 1, 2, none⟩) h.z (by simp) _, by have h2 := h.s.set_ 2 (.string z); simpa [rqC] using h2, row_store_neQ h.t (own_blk_ne h.t h.s (by decide)) _, h.b.setCell (p := ⟨w.heap.size + 1, 2, none⟩) (by show w.heap.size ≤ w.heap.size + 1; omega) _⟩
theorem rq_end {w W : World} {base : Nat} {vp : Value} {P : List ByteArray} (ht : OwnT W base vp P) (hb : w.heap.size < base) (a b c' : Value) : OwnT (((W.setCell ⟨w.heap.size, 0, none⟩ a).setCell ⟨w.heap.size, 1, none⟩ b).setCell ⟨w.heap.size, 2, none⟩ c') w.heap.size vp P := by
  have hne : vp.ownBlock ≠ some w.heap.size := fun e => by have := (World.ownsRow.lt ht _ e).1; omega
  exact ownT_monoQ (row_store_neQ (row_store_neQ (row_store_neQ ht hne _) hne _) hne _) (Nat.le_of_lt hb)
set_option maxRecDepth 100000 in
set_option maxHeartbeats 4000000 in
theorem rpasked_any (b : ByteArray) (w : World) (hs : b.size ≤ 1099511627776) :
    Calls Tryd.prog 8 #[.string b] w fun e w' => AskedR w' w.heap.size b e ∧ Below w.heap.size w w' := by
  have hX0 : RqX w ((w.alloc (.cells (rqC 0 (.slice none 0 0) ⟨#[]⟩) 24)).alloc (.cells (rqC 0 (.slice none 0 0) ⟨#[]⟩) 24)) 0 (.slice none 0 0) ⟨#[]⟩ [] := ⟨(Blk.new _ _ _).alloc _, by have h := Blk.new (w.alloc (.cells (rqC 0 (.slice none 0 0) ⟨#[]⟩) 24)) 24 (rqC 0 (.slice none 0 0) ⟨#[]⟩); simpa using h, OwnT.nil _ _, ((Below.refl _ _).alloc (Nat.le_refl _) _).alloc (by simp) _⟩
  have hl0 := rpline_any b 0 ((w.alloc (.cells (rqC 0 (.slice none 0 0) ⟨#[]⟩) 24)).alloc (.cells (rqC 0 (.slice none 0 0) ⟨#[]⟩) 24)) hs (Nat.zero_le _)
  have HX0 := hide hX0; have HL0 := hide hl0; clear hX0 hl0
  go_enter Tryd.func8, Tryd.ntmps8
  go_wp2_with fail
  refine (unhide HL0).mono ?_
  rintro e1 w1 ⟨hL, rfl⟩
  clear HL0
  generalize ((w.alloc (.cells (rqC 0 (.slice none 0 0) ⟨#[]⟩) 24)).alloc (.cells (rqC 0 (.slice none 0 0) ⟨#[]⟩) 24)) = w0 at *
  have hX0 := unhide HX0
  have z0 := hX0.z.cell 0; have z1 := hX0.z.cell 1; have z2 := hX0.z.cell 2
  have fz0 := hX0.z.frozen 0; have fz1 := hX0.z.frozen 1; have fz2 := hX0.z.frozen 2
  have s0 := hX0.s.cell 0; have s1 := hX0.s.cell 1; have s2 := hX0.s.cell 2
  have fs0 := hX0.s.frozen 0; have fs1 := hX0.s.frozen 1; have fs2 := hX0.s.frozen 2
  simp only [rqC, List.getElem?_toArray, List.getElem?_cons_zero, List.getElem?_cons_succ] at z0 z1 z2 s0 s1 s2
  clear hX0
  rcases hL with ⟨i, hi0, hib, hi1, hi2, rfl⟩ | ⟨hno, rfl⟩
  · have hsz : (b.extract 0 i).size = i := by rw [ByteArray.size_extract]; omega
    by_cases hi4 : i < 4
    · have hno := Lib.hid (ask_no1 hib hi4 hi1 hi2)
      have t1 : ((b.extract 0 i).size : Int) < 4 := by omega
      clear hi1 hi2
      go_wp2_with fail
      (try simp only [Exit.inBlock, Exit.then])
      refine bodyPost_ret (results_req rfl _ _ w.heap.size _ _ _ rfl (blkq_put (unhide HX0).z _ _ _)) rfl ?_
      exact ⟨.inr ⟨hno.out, rfl⟩, belowq_put (unhide HX0).b (Nat.le_refl _) _ _ _⟩
    · have t1 : ¬ ((b.extract 0 i).size : Int) < 4 := by omega
      have hJ0 := ask_J0 hib hi1 hi2
      have hexx : (b.extract 0 i).extract 4 (b.extract 0 i).size = b.extract 4 i := by
        apply bs_of
        rw [ex_list _ _ _ (Nat.le_refl _), ex_list _ _ _ (by omega), ex_list _ _ _ (by omega), hsz]
        rw [List.drop_zero, List.take_take, Nat.min_self]
      have hu := rundec_q ((b.extract 0 i).extract 4 (b.extract 0 i).size) w0 (by rw [hexx, ByteArray.size_extract]; omega)
      rw [hexx] at hu
      obtain ⟨old, hold⟩ : ∃ old, Hid (numQ (b.extract 4 i) = old) := ⟨_, Lib.hid rfl⟩
      have hin : In64P old := by rw [← hold.out]; exact numQ_in _
      rw [hold.out] at hu hJ0
      have HU := hide hu; have HJ0 := Lib.hid hJ0; have HIN := hide hin
      have t2 : (4 : Int) ≤ ((b.extract 0 i).size : Int) := by omega
      have t2n : 4 ≤ (b.extract 0 i).size := by omega
      have HEXX : Hid ((b.extract 0 i).extract 4 i = b.extract 4 i) := Lib.hid (by rw [hsz] at hexx; exact hexx)
      clear hu hJ0 hi1 hi2 hin hexx
      go_wp2_with fail
      rw [HEXX.out]
      refine (unhide HU).mono ?_
      rintro e2 w2 ⟨⟨z2n, rfl⟩, rfl⟩
      clear HU HEXX
      have hX1 := (unhide HX0).old_ old
      have HX1 := hide hX1; clear hX1
      go_wp2_with fail
      generalize (w0.setCell ⟨w.heap.size + 1, 0, none⟩ (.int .i64 old)) = w1 at *
      clear HX0 z0 z1 z2 fz0 fz1 fz2 s0 s1 s2 fs0 fs1 fs2
      generalize (decide ((i : Int) < 4)) = d4 at *
      go_loopw [6, 10, 11, 12, 13, 14, 15] (fun a k _ _ _ _ _ W => ∃ (at_ j : Nat) (vp : Value) (P : List ByteArray), a = .int .i64 (at_ : Int) ∧ at_ ≤ b.size ∧ k = .int .i64 (j : Int) ∧ j ≤ 65 ∧ P.length = j ∧ Hid (AskI b old P j at_) ∧ RqX w W old vp ⟨#[]⟩ P) (fun _ k _ _ _ _ _ _ => 65 - (RowKit.intOf k).toNat)
      case atStart => exact ⟨i + 1, 0, _, [], by go_num, hib, rfl, by omega, rfl, HJ0, unhide HX1⟩
      case round =>
        obtain ⟨at_, j, vp, P, rfl, hat, rfl, hj, hPl, hI, hX⟩ := hrel
        clear HX1
        obtain ⟨An, cn, rfl, -⟩ := id (ownT_strsQ hX.t)
        rw [hPl] at hX
        have r0 := hX.s.cell 0; have r1 := hX.s.cell 1; have r2 := hX.s.cell 2; have fr1 := hX.s.frozen 1; have fr2 := hX.s.frozen 2
        have z0 := hX.z.cell 0; have z1 := hX.z.cell 1; have z2 := hX.z.cell 2; have fz0 := hX.z.frozen 0; have fz1 := hX.z.frozen 1; have fz2 := hX.z.frozen 2
        simp only [rqC, List.getElem?_toArray, List.getElem?_cons_zero, List.getElem?_cons_succ] at r0 r1 r2 z0 z1 z2
        have hl := rpline_any b at_ wr hs hat
        have HX := hide hX; have HL := hide hl
        clear hX hl
        have s0' : (0 : Int) ≤ (j : Int) := by omega
        rcases Nat.lt_or_ge 64 j with hj64 | hj64
        · have q1 : ¬ (j : Int) ≤ 64 := by omega
          clear HL
          have hJ := Lib.hid (ask_full hI.out (by omega) ⟨old, P, b.extract at_ b.size⟩)
          go_wp2_with fail
          have hX3 := (unhide HX).nt_ (b.extract at_ b.size)
          have hS3 := ownT_strsQ hX3.t
          have hA := rpask_any ⟨old, P, b.extract at_ b.size⟩ (.slice An j cn) (wr.setCell ⟨w.heap.size + 1, 2, none⟩ (.string (b.extract at_ b.size))) hS3 (unhide HIN) (by simp only; omega) (by simp only [ByteArray.size_extract]; omega)
          have hJ : Hid (AskJ b ⟨old, P, b.extract at_ b.size⟩) := Lib.hid (by simpa [true_and] using hJ.out)
          have hnt : Hid (b.extract at_ b.size = b.extract at_ b.size) := Lib.hid rfl
          generalize b.extract at_ b.size = nt at *
          generalize (wr.setCell ⟨w.heap.size + 1, 2, none⟩ (.string nt)) = w4 at *
          have HX3 := hide hX3; have HA := hide hA
          clear hX3 hS3 hA HX r0 r1 r2 fr1 fr2 z0 z1 z2 fz0 fz1 fz2 hnt
          refine (unhide HA).mono ?_
          rintro e4 w5 ⟨rfl, hb5⟩
          clear HA
          have hX5 := (unhide HX3).call hb5
          have HX5 := hide hX5
          have r0 := hX5.s.cell 0; have r1 := hX5.s.cell 1; have r2 := hX5.s.cell 2; have fr1 := hX5.s.frozen 1; have fr2 := hX5.s.frozen 2
          have z0 := hX5.z.cell 0; have z1 := hX5.z.cell 1; have z2 := hX5.z.cell 2; have fz0 := hX5.z.frozen 0; have fz1 := hX5.z.frozen 1; have fz2 := hX5.z.frozen 2
          simp only [rqC, List.getElem?_toArray, List.getElem?_cons_zero, List.getElem?_cons_succ] at r0 r1 r2 z0 z1 z2
          clear hX5 hb5 HX3
          by_cases hE : askE ⟨old, P, nt⟩ = 0
          · rw [askV_ok hE]
            have hOK := Lib.hid (askE_ok.1 hE)
            by_cases hts : askB ⟨old, P, nt⟩ = b
            · have hB2 := Lib.hid hts
              have y1 : ((askB ⟨old, P, nt⟩).toList == b.toList) = true := by rw [hts]; exact beq_self_eq_true _
              have y2 : (askB ⟨old, P, nt⟩).toList = b.toList := by rw [hts]
              generalize askB ⟨old, P, nt⟩ = T at y1 y2 ⊢
              clear hts hE
              go_wp2_with fail
              (try simp only [Exit.inBlock, Exit.then])
              refine bodyPost_ret (results_req rfl _ _ w.heap.size _ _ _ rfl (blkq_put (unhide HX5).z _ _ _)) rfl ?_
              refine ⟨.inl ⟨⟨old, P, nt⟩, .slice An j cn, hOK.out, hB2.out, rfl, rq_end (unhide HX5).t (by omega) _ _ _⟩, belowq_put (unhide HX5).b (Nat.le_refl _) _ _ _⟩
            · have hno := Lib.hid (ask_not hJ.out (.inr hts))
              have y1 : ((askB ⟨old, P, nt⟩).toList == b.toList) = false := toList_ne hts
              have y2 : ¬ (askB ⟨old, P, nt⟩).toList = b.toList := by rw [beq_eq_false_iff_ne] at y1; exact y1
              clear hts hE
              generalize askB ⟨old, P, nt⟩ = T at *
              go_wp2_with fail
              (try simp only [Exit.inBlock, Exit.then])
              refine bodyPost_ret (results_req rfl _ _ w.heap.size _ _ _ rfl (blkq_put (unhide HX5).z _ _ _)) rfl ?_
              exact ⟨.inr ⟨hno.out, rfl⟩, belowq_put (unhide HX5).b (Nat.le_refl _) _ _ _⟩
          · have hno := Lib.hid (ask_not hJ.out (.inl hE))
            rw [askV_no rfl hE]
            generalize askE ⟨old, P, nt⟩ = en at *
            have y1 : ((en : Int) == 0) = false := by rw [beq_eq_false_iff_ne]; omega
            have y2 : ¬ (en : Int) = 0 := by omega
            go_wp2_with fail
            (try simp only [Exit.inBlock, Exit.then])
            refine bodyPost_ret (results_req rfl _ _ w.heap.size _ _ _ rfl (blkq_put (unhide HX5).z _ _ _)) rfl ?_
            exact ⟨.inr ⟨hno.out, rfl⟩, belowq_put (unhide HX5).b (Nat.le_refl _) _ _ _⟩
        · have q1 : (j : Int) ≤ 64 := by omega
          go_wp2_with fail
          refine (unhide HL).mono ?_
          rintro e3 w3 ⟨hL, rfl⟩
          clear HL
          rcases hL with ⟨i2, h2a, h2b, h21, h22, rfl⟩ | ⟨hno, rfl⟩
          · by_cases he : i2 = at_
            · have hJ := Lib.hid (ask_blank hI.out h2a h2b h21 h22 he)
              have hem : b.extract at_ i2 = ⟨#[]⟩ := by
                apply bs_of
                rw [ex_list _ _ _ (by omega), he]
                rw [List.drop_eq_nil_of_le (by rw [List.length_take]; omega)]
              rw [hem]
              clear h21 h22 hem
              go_wp2_with fail
              have hX3 := (unhide HX).nt_ (b.extract (at_ + 1) b.size)
              have hS3 := ownT_strsQ hX3.t
              have hA := rpask_any ⟨old, P, b.extract (at_ + 1) b.size⟩ (.slice An j cn) (wr.setCell ⟨w.heap.size + 1, 2, none⟩ (.string (b.extract (at_ + 1) b.size))) hS3 (unhide HIN) (by simp only; omega) (by simp only [ByteArray.size_extract]; omega)
              have hJ : Hid (AskJ b ⟨old, P, b.extract (at_ + 1) b.size⟩) := Lib.hid (by simpa [he] using hJ.out)
              have hnt : Hid (b.extract (at_ + 1) b.size = b.extract (at_ + 1) b.size) := Lib.hid rfl
              generalize b.extract (at_ + 1) b.size = nt at *
              generalize (wr.setCell ⟨w.heap.size + 1, 2, none⟩ (.string nt)) = w4 at *
              have HX3 := hide hX3; have HA := hide hA
              clear hX3 hS3 hA HX r0 r1 r2 fr1 fr2 z0 z1 z2 fz0 fz1 fz2 hnt
              refine (unhide HA).mono ?_
              rintro e4 w5 ⟨rfl, hb5⟩
              clear HA
              have hX5 := (unhide HX3).call hb5
              have HX5 := hide hX5
              have r0 := hX5.s.cell 0; have r1 := hX5.s.cell 1; have r2 := hX5.s.cell 2; have fr1 := hX5.s.frozen 1; have fr2 := hX5.s.frozen 2
              have z0 := hX5.z.cell 0; have z1 := hX5.z.cell 1; have z2 := hX5.z.cell 2; have fz0 := hX5.z.frozen 0; have fz1 := hX5.z.frozen 1; have fz2 := hX5.z.frozen 2
              simp only [rqC, List.getElem?_toArray, List.getElem?_cons_zero, List.getElem?_cons_succ] at r0 r1 r2 z0 z1 z2
              clear hX5 hb5 HX3
              by_cases hE : askE ⟨old, P, nt⟩ = 0
              · rw [askV_ok hE]
                have hOK := Lib.hid (askE_ok.1 hE)
                by_cases hts : askB ⟨old, P, nt⟩ = b
                · have hB2 := Lib.hid hts
                  have y1 : ((askB ⟨old, P, nt⟩).toList == b.toList) = true := by rw [hts]; exact beq_self_eq_true _
                  have y2 : (askB ⟨old, P, nt⟩).toList = b.toList := by rw [hts]
                  generalize askB ⟨old, P, nt⟩ = T at y1 y2 ⊢
                  clear hts hE
                  go_wp2_with fail
                  (try simp only [Exit.inBlock, Exit.then])
                  refine bodyPost_ret (results_req rfl _ _ w.heap.size _ _ _ rfl (blkq_put (unhide HX5).z _ _ _)) rfl ?_
                  refine ⟨.inl ⟨⟨old, P, nt⟩, .slice An j cn, hOK.out, hB2.out, rfl, rq_end (unhide HX5).t (by omega) _ _ _⟩, belowq_put (unhide HX5).b (Nat.le_refl _) _ _ _⟩
                · have hno := Lib.hid (ask_not hJ.out (.inr hts))
                  have y1 : ((askB ⟨old, P, nt⟩).toList == b.toList) = false := toList_ne hts
                  have y2 : ¬ (askB ⟨old, P, nt⟩).toList = b.toList := by rw [beq_eq_false_iff_ne] at y1; exact y1
                  clear hts hE
                  generalize askB ⟨old, P, nt⟩ = T at *
                  go_wp2_with fail
                  (try simp only [Exit.inBlock, Exit.then])
                  refine bodyPost_ret (results_req rfl _ _ w.heap.size _ _ _ rfl (blkq_put (unhide HX5).z _ _ _)) rfl ?_
                  exact ⟨.inr ⟨hno.out, rfl⟩, belowq_put (unhide HX5).b (Nat.le_refl _) _ _ _⟩
              · have hno := Lib.hid (ask_not hJ.out (.inl hE))
                rw [askV_no rfl hE]
                generalize askE ⟨old, P, nt⟩ = en at *
                have y1 : ((en : Int) == 0) = false := by rw [beq_eq_false_iff_ne]; omega
                have y2 : ¬ (en : Int) = 0 := by omega
                go_wp2_with fail
                (try simp only [Exit.inBlock, Exit.then])
                refine bodyPost_ret (results_req rfl _ _ w.heap.size _ _ _ rfl (blkq_put (unhide HX5).z _ _ _)) rfl ?_
                exact ⟨.inr ⟨hno.out, rfl⟩, belowq_put (unhide HX5).b (Nat.le_refl _) _ _ _⟩
            · have hI2 := Lib.hid (ask_more hI.out h2a h2b h21 h22 he)
              have hez : (b.extract at_ i2).size = i2 - at_ := by rw [ByteArray.size_extract]; omega
              have hlz : (b.extract at_ i2).size ≤ 1099511627776 := by omega
              have y0 : ¬ (b.extract at_ i2) = ⟨#[]⟩ := fun e => by rw [e] at hez; have e0 : (⟨#[]⟩ : ByteArray).size = 0 := rfl; omega
              have y1 : ¬ (b.extract at_ i2).toList = [] := by have h := toList_ne y0; rw [show (⟨#[]⟩ : ByteArray).toList = [] from by kernel_rfl, beq_eq_false_iff_ne] at h; exact h
              have hu := runb_q (b.extract at_ i2) wr hlz
              generalize b.extract at_ i2 = L at *
              generalize hshQ L = h9 at *
              have HU := hide hu
              have y2 : L.toList.isEmpty = false := by cases hq : L.toList with
                | nil => exact absurd hq y1
                | cons => rfl
              clear hu h21 h22 hez y0
              go_wp2_with fail
              refine (unhide HU).mono ?_
              rintro e4 w5 ⟨⟨z4, rfl⟩, hb5⟩
              clear HU
              have hX5 := (unhide HX).call hb5
              have hbase : Hid (w.heap.size + 2 ≤ w5.heap.size) := Lib.hid hX5.s.lt
              have hPz : Hid (P.length + 1 ≤ 4398046511104) := Lib.hid (by omega)
              have r1 := hX5.s.cell 1
              simp only [rqC, List.getElem?_toArray, List.getElem?_cons_zero, List.getElem?_cons_succ] at r1
              have HX5 := hide hX5
              clear hX5 hb5 HX r0 r2 fr1 fr2 z0 z1 z2 fz0 fz1 fz2
              go_wp2_with (at_builtin; go_must (refine wpList_appT1 w5 rfl _ _ rfl (unhide HX5).t rfl rfl hPz.out hbase.out ?_); intro v1 w6 hO1 hg1 hat1; obtain ⟨A1, c1, rfl, -⟩ := id (ownT_strsQ hO1); have hs6 := (unhide HX5).blk hg1; have k1 := hs6.cell 1; have l1 := hs6.frozen 1; simp only [rqC, List.getElem?_toArray, List.getElem?_cons_zero, List.getElem?_cons_succ] at k1; have H6 := hide ((unhide HX5).app hO1 hg1); clear hO1 hg1 hat1 hs6)
              exact ⟨⟨i2 + 1, j + 1, .slice A1 (j + 1) c1, P ++ [h9], by go_num, by omega, by go_num, by omega, by simp [hPl], hI2, by have h := unhide H6; rw [show (P ++ [h9]).length = j + 1 by simp [hPl]] at h; exact h⟩, by simp [RowKit.intOf]; omega⟩
          · have hno' := Lib.hid (ask_noline hI.out hno)
            clear hno
            go_wp2_with fail
            (try simp only [Exit.inBlock, Exit.then])
            refine bodyPost_ret (results_req rfl _ _ w.heap.size _ _ _ rfl (blkq_put (unhide HX).z _ _ _)) rfl ?_
            exact ⟨.inr ⟨hno'.out, rfl⟩, belowq_put (unhide HX).b (Nat.le_refl _) _ _ _⟩
  · have hno' := Lib.hid (ask_no0 hno)
    clear hno
    go_wp2_with fail
    (try simp only [Exit.inBlock, Exit.then])
    refine bodyPost_ret (results_req rfl _ _ w.heap.size _ _ _ rfl (blkq_put (unhide HX0).z _ _ _)) rfl ?_
    exact ⟨.inr ⟨hno'.out, rfl⟩, belowq_put (unhide HX0).b (Nat.le_refl _) _ _ _⟩
end Go.Proofs.YtphjpdnheaeghaaDoor

/-
  CONTRACT of front.Asked.
-/
import Derived.Test.YtnkioabdpploeaaGreatDoorRows
import Derived.Laws.EntriesVeiled
import Derived.Test.YtnkioabdpploeaaGreatDoorGBase
import Derived.Test.YtnkioabdpploeaaGreatDoorSFCall
import Derived.Test.YtnkioabdpploeaaGreatDoorSFTold
set_option linter.unusedVariables false
set_option linter.unusedSimpArgs false
namespace Go.Proofs.YtnkioabdpploeaaGreatDoor
open Go.RowKit Go.Lib
/-- Behind the look for the shape: nothing written but what is new; the shape's box. -/
structure ShB (w W : World) (g : Nat) (k m : Nat) (fv : Value) : Prop where
  b : Below w.heap.size w W
  r : Blk W g 52 #[.int .i64 (k : Int), .int .i64 (m : Int), fv]
theorem shb_A {W : World} {k m : Nat} {fv : Value} (o : Obj) : ShB W ((W.alloc o).alloc (.cells #[.int .i64 (k : Int), .int .i64 (m : Int), fv] 52)).drew (W.heap.size + 1) k m fv :=
  ⟨(((Below.refl _ _).alloc (Nat.le_refl _) _).alloc (by simp) _).drew, by have h2 := Blk.new (W.alloc o) 52 #[.int .i64 (k : Int), .int .i64 (m : Int), fv]; rw [World.size_alloc] at h2; exact h2⟩
theorem shb_B {W : World} {k m : Nat} {fv : Value} (o : Obj) : ShB W ((W.alloc (.cells #[.int .i64 (k : Int), .int .i64 (m : Int), fv] 52)).alloc o).drew W.heap.size k m fv :=
  ⟨(((Below.refl _ _).alloc (Nat.le_refl _) _).alloc (by simp) _).drew, (Blk.new _ _ _).alloc o⟩
set_option maxRecDepth 100000 in
set_option maxHeartbeats 8000000 in
theorem fasked_any (s : ByteArray) (w : World) (hs : s.size ≤ 33554432) :
    Calls Tryz.prog 11 #[.string s] w fun e w' => CalR w' w.heap.size s e ∧ Below w.heap.size w w' := by
  have hb0 : Below w.heap.size w (w.alloc (.cells (calC ⟨#[]⟩ (.slice none 0 0) (.slice none 0 0)) 25)) := (Below.refl _ _).alloc (Nat.le_refl _) _
  have hB0 := Blk.new w 25 (calC ⟨#[]⟩ (.slice none 0 0) (.slice none 0 0))
  have htw := twords_any s (w.alloc (.cells (calC ⟨#[]⟩ (.slice none 0 0) (.slice none 0 0)) 25)) (by omega)
  have H0 := hide (And.intro hb0 hB0); have HT := hide htw; clear hb0 hB0 htw
  go_enter Tryz.func11, Tryz.ntmps11
  go_wp2_with fail
  refine (unhide HT).mono ?_
  rintro e1 w1 ⟨hW, hb1⟩
  have hX1 : TXc w w1 (calC ⟨#[]⟩ (.slice none 0 0) (.slice none 0 0)) := TXc.next ⟨(unhide H0).1, (unhide H0).2⟩ hb1
  have hz1 : w.heap.size + 1 ≤ (w.alloc (.cells (calC ⟨#[]⟩ (.slice none 0 0) (.slice none 0 0)) 25)).heap.size := by simp
  have c0 := hX1.x.cell 0; have c1 := hX1.x.cell 1; have c2 := hX1.x.cell 2
  have f0 := hX1.x.frozen 0; have f1 := hX1.x.frozen 1; have f2 := hX1.x.frozen 2
  simp only [calC, List.getElem?_toArray, List.getElem?_cons_zero, List.getElem?_cons_succ] at c0 c1 c2
  have H1 := hide hX1; clear hX1
  rcases hW with ⟨ws, v, hw, rfl, hO⟩ | ⟨hw, rfl⟩
  · obtain ⟨hwz, hwl⟩ := wdsL_size hw
    have hO1 : OwnT w1 (w.heap.size + 1) v ws := ownT_mono hO hz1
    clear hO hb1 H0 HT hz1
    have hwl2 : ws.length ≤ 33554433 := by omega
    rcases hO1.form with ⟨rfl, he⟩ | ⟨g, cap, rfl, hg1, hg2, hcap⟩
    · subst he
      have hr := Lib.hid (call_none2 hw)
      clear hO1 hw hwz hwl
      go_wp2_with fail
      (try simp only [Exit.inBlock, Exit.then])
      refine bodyPost_ret (results_call rfl _ _ w.heap.size _ _ _ rfl (blk3_put (unhide H1).x _ _ _)) rfl ?_
      exact ⟨.inr ⟨hr.out, rfl⟩, below3_put (unhide H1).b (Nat.le_refl _) _ _ _⟩
    · by_cases hwe : ws = []
      · subst hwe
        have hr := Lib.hid (call_none2 hw)
        clear hO1 hw hwz hwl
        go_wp2_with fail
        (try simp only [Exit.inBlock, Exit.then])
        refine bodyPost_ret (results_call rfl _ _ w.heap.size _ _ _ rfl (blk3_put (unhide H1).x _ _ _)) rfl ?_
        exact ⟨.inr ⟨hr.out, rfl⟩, below3_put (unhide H1).b (Nat.le_refl _) _ _ _⟩
      have hl : 1 ≤ ws.length := by
        cases ws with
        | nil => exact absurd rfl hwe
        | cons x r => simp
      have t1 : ¬ (ws.length : Int) = 0 := by omega
      have t2 : ((ws.length : Int) == 0) = false := by rw [beq_eq_false_iff_ne]; omega
      have t3 : (0 : Int) < (ws.length : Int) := by omega
      have hS := ownT_strs hO1
      have q0 := World.ownsRow.cellAt hO1 0 (by omega)
      rw [List.getElem?_map, List.getElem?_eq_getElem (by omega), Option.map_some] at q0
      have e0 : ws.getD 0 ⟨#[]⟩ = ws[0] := by rw [List.getD_eq_getElem?_getD, List.getElem?_eq_getElem (by omega)]; rfl
      rw [← e0] at q0
      obtain ⟨nm, hnm⟩ : ∃ nm, Hid (ws.getD 0 ⟨#[]⟩ = nm) := ⟨_, Lib.hid rfl⟩
      rw [hnm.out] at q0
      obtain ⟨k, m, ok, fv, hsh, hk2, hm1, hfv, hlk⟩ := look_req nm
      have HS := hide (And.intro hS hwz); have HO := hide hO1; have HLK := hide hlk; have HSH := Lib.hid hsh
      have hgw : g < w1.heap.size := hg2
      have hix : ∀ W : World, (Instr.indexAt 23 (.slice (some ⟨g, 0, none⟩) ws.length cap) (.int .i64 0)).run Tryz.prog W = .ok (.pointer (some ⟨g, 0, none⟩)) W := fun W => by
        have hh := run_indexAt_slice (P := Tryz.prog) W 23 ⟨g, 0, none⟩ ws.length cap .i64 0 Tryz.underlying23
        rw [if_pos ⟨by omega, t3⟩] at hh
        exact hh
      have HIX := hide hix
      clear hS hwz hO1 hlk hsh e0 hix
      go_upto_region 4 with fail
      go_cut [6, 7] (fun s6 s7 wx => ∃ gr, s6 = .pointer (some ⟨gr, 0, none⟩) ∧ s7 = .bool ok ∧ Hid (ShB w1 wx gr k m fv))
      case first =>
        clear HS HO hw hwl hwl2 hl hwe hnm
        have hix := unhide HIX
        clear HIX
        generalize ws.length = wl at *
        rcases hfv with rfl | ⟨nf, rfl⟩
        all_goals
          go_region_held3 (fun W => W.cell? ⟨g, 0, none⟩ = some (.string nm) ∧ (Instr.indexAt 23 (.slice (some ⟨g, 0, none⟩) wl cap) (.int .i64 0)).run Tryz.prog W = .ok (.pointer (some ⟨g, 0, none⟩)) W) (first | (refine ⟨?_, hix _⟩; assumption) | (refine ⟨?_, hix _⟩; go_keep)) (first
            | (go_at_call 19; (with_reducible refine (requests_any w1.drew).mono ?_)
               rintro e W1 ⟨rfl, rfl⟩
               have a0 : (w1.alloc (.map reqE9 9)).drew.cell? ⟨g, 0, none⟩ = some (.string nm) := (World.cell?_alloc_lt w1 (.map reqE9 9) ⟨g, 0, none⟩ hgw).trans q0
               have l1 := (unhide HLK) (w1.alloc (.map reqE9 9)).drew w1.heap.size (heap_alloc_new w1 _)
               have l2 := (unhide HLK) ((w1.alloc (.map reqE9 9)).alloc reqZ).drew w1.heap.size (map_next (W := w1) reqZ))
            | (go_at_call 19; (with_reducible refine (requests_any (w1.alloc reqZ).drew).mono ?_)
               rintro e W1 ⟨rfl, rfl⟩
               have l3 := (unhide HLK) ((w1.alloc reqZ).alloc (.map reqE9 9)).drew (w1.heap.size + 1) (by have h := heap_alloc_new (w1.alloc reqZ) (.map reqE9 9); rw [World.size_alloc] at h; exact h)))
        all_goals
          go_wp2_with fail
          go_meet
          case rel => first
            | exact ⟨_, rfl, rfl, Lib.hid (shb_A _)⟩
            | exact ⟨_, rfl, rfl, Lib.hid (shb_B _)⟩
      case rest =>
        obtain ⟨gr, rfl, rfl, hB⟩ := hcut
        have hX2 := (unhide H1).next hB.out.b
        have d0 := hX2.x.cell 0; have d1 := hX2.x.cell 1; have d2 := hX2.x.cell 2
        have g0 := hX2.x.frozen 0; have g1 := hX2.x.frozen 1; have g2 := hX2.x.frozen 2
        have r0 := hB.out.r.cell 0; have r1 := hB.out.r.cell 1
        simp only [calC, List.getElem?_toArray, List.getElem?_cons_zero, List.getElem?_cons_succ] at d0 d1 d2 r0 r1
        have q2 : wc.cell? ⟨g, 0, none⟩ = some (.string nm) := (hB.out.b.cell (p := ⟨g, 0, none⟩) hgw).trans q0
        have H2 := hide hX2; have HB := hide hB.out
        clear hX2 hB c0 c1 c2 f0 f1 f2 HLK q0 hfv
        obtain ⟨wc0, hwc0⟩ : ∃ wc0, wc0 = wc := ⟨_, rfl⟩
        rw [← hwc0] at H2 HB q2 d0 d1 d2 g0 g1 g2 r0 r1 ⊢
        clear hwc0
        rcases HSH.out with ⟨rfl, hs1⟩ | ⟨rfl, hs1⟩
        · rw [← hnm.out] at hs1
          by_cases hlen : ws.length = 1 + k + m
          · have t4 : (ws.length : Int) = 1 + (k : Int) + (m : Int) := by omega
            have t5 : ((ws.length : Int) != 1 + (k : Int) + (m : Int)) = false := by rw [t4]; simp
            have t6 : (1 : Int) ≤ 1 + (k : Int) := by omega
            have t7 : 1 + (k : Int) ≤ (cap : Int) := by omega
            have t8 : 1 + (k : Int) - 1 = (k : Int) := by omega
            have t10 : 1 + k - 1 = k := by omega
            have hS2 := (unhide HS).1.below (unhide HB).b
            have hsub : ∀ A c, A = some ⟨g, 1, none⟩ ∨ k = 0 → StrsAt wc0 (.slice A k c) ((ws.drop 1).take k) := fun A c h => by
              rcases h with rfl | rfl
              · exact strs_sub hS2 1 k c (by omega)
              · exact strs_nil
            have hnmb := fun A c h => fnums_any _ ((ws.drop 1).take k) wc0 (hsub A c h) (fun x hx => by have := (unhide HS).2 x (List.mem_of_mem_drop (List.mem_of_mem_take hx)); omega) (by rw [List.length_take]; omega)
            have HNM2 := hide hnmb
            have HO2 := hide (OwnT.below (unhide HO) (unhide HB).b)
            obtain ⟨m2, hm2⟩ : ∃ m2, Hid (1 + k = m2) := ⟨_, Lib.hid rfl⟩
            have hm2' : 1 + k = m2 := hm2.out
            have hml : m2 ≤ ws.length := by omega
            have hdr : ∀ W, StrsAt W (.slice (some ⟨g, 0, none⟩) ws.length cap) ws → ∀ A c, A = some ⟨g, m2, none⟩ ∨ ws.length - m2 = 0 → StrsAt W (.slice A (ws.length - m2) c) (ws.drop m2) := fun W hW A c h => by
              have e : (ws.drop m2).take (ws.length - m2) = ws.drop m2 := List.take_of_length_le (by rw [List.length_drop]; omega)
              rcases h with rfl | h0
              · have h := strs_sub hW m2 (ws.length - m2) c (by omega)
                rwa [e] at h
              · have e2 : ws.drop m2 = [] := List.eq_nil_of_length_eq_zero (by rw [List.length_drop]; exact h0)
                rw [h0, e2]; exact strs_nil
            obtain ⟨P0, hif⟩ : ∃ P0, (if cap = m2 then some (⟨g, 0, none⟩ : Addr) else some ⟨g, m2, none⟩) = P0 := ⟨_, rfl⟩
            have hst : ∀ W, StrsAt W (.slice (some ⟨g, 0, none⟩) ws.length cap) ws → ∀ c, StrsAt W (.slice P0 (ws.length - m2) c) (ws.drop m2) := fun W hW c => hdr W hW _ _ (by
              rw [← hif]
              by_cases h : cap = m2
              · rw [if_pos h]; right; omega
              · rw [if_neg h]; left; rfl)
            have hwm : IntKind.i64.wrap (1 + (k : Int)) = (m2 : Int) := by simp [IntKind.wrap, IntKind.bits]; omega
            have hml2 : (m2 : Int) ≤ (ws.length : Int) := by omega
            have HDR := hide hst; have HIF := hide hif; have HWM := Lib.hid hwm; have HS2 := hide hS2
            have hlast := call_last hw hs1 hlen
            have hbad := fun h => call_bad hw hs1 hlen h
            have hco := takeC_ok hs1 hlen
            have hssz : ∀ x ∈ (takeC k ws).ss, x.size ≤ s.size := fun x hx => (wdsL_size hw).1 x (List.mem_of_mem_drop hx)
            have HLS := Lib.hid (And.intro hlast (And.intro hbad (And.intro hco hssz))); have HLEN := Lib.hid hlen
            clear hlast hbad hco hssz hlen hw hs1 hwl hwe
            clear hnmb hsub hS2 hdr hst hif hwm hm2'
            by_cases hcp : cap = 1
            all_goals
              go_wp2_with fail
              refine ((unhide HNM2) _ _ (by first | exact Or.inl rfl | exact Or.inr (by omega))).mono ?_
              rintro e3 w3 ⟨hF3, hb3⟩
              have hX3 := (unhide H2).next hb3
              have b0 : w3.cell? ⟨g, 0, none⟩ = some (.string nm) := (hb3.cell (p := ⟨g, 0, none⟩) (World.block_lt_of_cell? _ _ q2)).trans q2
              have hR3 := (unhide HB).r.below hb3 (unhide HB).r.lt
              have s0 := hR3.cell 0
              simp only [List.getElem?_toArray, List.getElem?_cons_zero] at s0
              have hS3 := (unhide HS2).below hb3
              have hgb : g < w3.heap.size := World.block_lt_of_cell? w3 _ b0
              have m0 := World.new_ne w3 _ b0
              have m1 := World.new_ne w3 _ s0
              have H3 := hide (And.intro hX3 hS3)
              clear hX3 hR3 hS3 q2 r0 r1 d0 d1 d2 g0 g1 g2 HS2 HO2 HNM2
              have hif := unhide HIF; have hwm := HWM.out; have hix := unhide HIX
              (try rw [hcp] at hif)
              have hform : ∃ AN mN cN bN, e3 = .returned (.tuple #[.slice AN mN cN, .bool bN]) := by
                rcases hF3 with ⟨ns, vN, hns, rfl, hoN⟩ | ⟨hns, rfl⟩
                · obtain ⟨AN, cN, rfl, -⟩ := id hoN.ints
                  exact ⟨_, _, _, _, rfl⟩
                · exact ⟨_, _, _, _, rfl⟩
              obtain ⟨AN, mN, cN, bN, rfl⟩ := hform
              have HF3 := hide hF3; have HB3 := hide hb3; clear hF3 hb3
              go_upto_region 8 with fail
              clear t4 t5
              have hdl : (ws.drop m2).length ≤ 1099511627776 := by rw [List.length_drop]; omega
              have HDL := Lib.hid hdl; clear hdl
              have hsa := ((unhide H3).2).below ((Below.refl w3.heap.size w3).alloc (Nat.le_refl _) (.cells #[.string ⟨#[]⟩, .slice none 0 0, .slice none 0 0] 25))
              have HSA := hide (unhide HDR _ hsa); clear hsa
              have hZ := Blk.new w3 25 #[.string ⟨#[]⟩, .slice none 0 0, .slice none 0 0]
              have HZ := hide hZ; clear hZ
              have hb0 := (World.cell?_alloc_lt w3 (.cells #[.string ⟨#[]⟩, .slice none 0 0, .slice none 0 0] 25) ⟨g, 0, none⟩ hgb).trans b0
              have HB0 := hide hb0; clear hb0
              have s1 := (World.cell?_alloc_lt w3 (.cells #[.string ⟨#[]⟩, .slice none 0 0, .slice none 0 0] 25) ⟨gr, 0, none⟩ (World.block_lt_of_cell? w3 _ s0)).trans s0
              have s2 := unhide HB0
              have t3n : 0 < ws.length := by omega
              go_cut [9] (fun s9 wx => ∃ g9 A4 c4, s9 = .pointer (some ⟨g9, 0, none⟩) ∧ Hid (T9c w w3 wx g9 nm (.slice AN mN cN) (.slice A4 (ws.length - m2) c4) (ws.drop m2)))
              case first =>
                go_region_law (first
                  | (refine step_appT w3.drew rfl _ _ rfl (OwnT.nil _ w3.heap.size) rfl (unhide HDR _ (unhide H3).2 _).drew rfl (by have := HDL.out; simp; omega) (Nat.le_refl _) ?_; intro v4 w4 hO4 hg4 hat4; obtain ⟨A4, c4, rfl, -⟩ := id (ownT_strs hO4); have y0 : w4.cell? ⟨g, 0, none⟩ = some (.string nm) := World.grownBy.cell hg4 (a := ⟨g, 0, none⟩) b0 (by simp [Value.ownBlock]); have y1 := World.new_ne w4 _ y0; have y2 := (World.cell?_alloc_lt w4 (.cells #[.string ⟨#[]⟩, .slice none 0 0, .slice none 0 0] 25) ⟨g, 0, none⟩ (World.block_lt_of_cell? w4 _ y0)).trans y0; simp only [List.nil_append, List.length_drop] at hO4; have HO4 := hide (t9c_A (c := nm) (vN := .slice AN mN cN) (unhide H3).1 hO4 hg4); clear hO4 hg4 hat4)
                  | (refine step_appT (w3.alloc (.cells #[.string ⟨#[]⟩, .slice none 0 0, .slice none 0 0] 25)).drew rfl _ _ rfl (OwnT.nil _ w3.heap.size) rfl (unhide HSA _).drew rfl (by have := HDL.out; simp; omega) (by show w3.heap.size ≤ (w3.alloc _).heap.size; simp) ?_; intro v4 w4 hO4 hg4 hat4; obtain ⟨A4, c4, rfl, -⟩ := id (ownT_strs hO4); have y0 : w4.cell? ⟨g, 0, none⟩ = some (.string nm) := World.grownBy.cell hg4 (a := ⟨g, 0, none⟩) (unhide HB0) (by simp [Value.ownBlock]); have y1 := World.new_ne w4 _ y0; have hZ4 := ((unhide HZ).drew).grown hg4 (by simp [Value.ownBlock]); have z0 := hZ4.cell 0; have z1 := hZ4.cell 1; have z2 := hZ4.cell 2; have f0 := hZ4.frozen 0; have f1 := hZ4.frozen 1; have f2 := hZ4.frozen 2; simp only [List.getElem?_toArray, List.getElem?_cons_zero, List.getElem?_cons_succ] at z0 z1 z2; simp only [List.nil_append, List.length_drop] at hO4; have HO4 := hide (t9c_B (cs := #[]) (c := nm) (vN := .slice AN mN cN) (unhide H3).1 hO4 hg4 hZ4); clear hO4 hg4 hat4 hZ4))
                all_goals
                  go_wp2_with fail
                  go_meet
                  case rel => exact ⟨_, A4, c4, rfl, Lib.hid (unhide HO4)⟩
              case rest =>
                obtain ⟨g9, A4, c4, rfl, hT⟩ := hcut
                have hT' := hT.out
                have r0 := hT'.r.cell 0; have r1 := hT'.r.cell 1; have r2 := hT'.r.cell 2
                have z0 := hT'.x.x.cell 0; have z1 := hT'.x.x.cell 1; have z2 := hT'.x.x.cell 2
                have f0 := hT'.x.x.frozen 0; have f1 := hT'.x.x.frozen 1; have f2 := hT'.x.x.frozen 2
                simp only [calC, List.getElem?_toArray, List.getElem?_cons_zero, List.getElem?_cons_succ] at r0 r1 r2 z0 z1 z2
                clear hT' b0 m0 m1 s0 s1 s2 HDR HSA HZ HB0 HIX hix HO
                rcases unhide HF3 with ⟨ns, vN, hns, he, hoN⟩ | ⟨hns, he⟩
                · simp only [Ending.returned.injEq, Value.tuple.injEq, Array.mk.injEq, List.cons.injEq, and_true, Value.bool.injEq] at he
                  obtain ⟨rfl, rfl⟩ := he
                  have hN : IntsAt wc (.slice AN mN cN) ns := hoN.ints.below hT.out.b
                  have hmN : mN = ns.length := by obtain ⟨A', c', hv, -⟩ := hN; injection hv
                  subst hmN
                  have hS := ownT_strs hT.out.t
                  have htk : takeC k ws = ⟨nm, ns, ws.drop m2⟩ := by
                    unfold takeC; rw [hnm.out, numsO_map hns, hm2.out]
                  have hls := HLS.out
                  rw [htk] at hls
                  have hco : CcOk ⟨nm, ns, ws.drop m2⟩ := ⟨fun z hz => by
                    rw [← numsO_map hns] at hz
                    obtain ⟨x, -, rfl⟩ := List.mem_map.1 hz
                    exact numV_in x, fun x hx => by have := hls.2.2.2 x hx; omega⟩
                  have hlq := (shapeS_some hls.2.2.1).2.2.2
                  simp only at hlq
                  have hcall := fcall_any ⟨nm, ns, ws.drop m2⟩ _ _ wc hN hS hco (by simp only; omega) (by simp only; omega)
                  rw [fcallV_ok hls.2.2.1] at hcall
                  obtain ⟨T, hTT⟩ : ∃ T, Hid (callB ⟨nm, ns, ws.drop m2⟩ = T) := ⟨_, Lib.hid rfl⟩
                  have hlast := hls.1
                  rw [hTT.out] at hcall hlast
                  simp only at hcall
                  obtain ⟨S, hSS⟩ : ∃ S, Hid (ws.drop m2 = S) := ⟨_, Lib.hid rfl⟩
                  have hT2 := hT.out
                  rw [hSS.out] at hlast hT2
                  have HC := hide hcall; have HL := Lib.hid hlast; have HT2 := hide hT2; have HON := hide hoN
                  clear hcall hlast hT2 hco htk hN hS hoN hns hT HF3 hls hlq HLS hif HS
                  go_wp2_with fail
                  refine (unhide HC).mono ?_
                  rintro e6 w6 ⟨rfl, hb6⟩
                  have hX6 := (unhide HT2).x.next hb6
                  have hR6 := (unhide HT2).r.below hb6 (unhide HT2).r.lt
                  have hS6 := (unhide HT2).t.below hb6
                  have hb23 := Lib.hid (unhide HB3).size
                  have hN6 := row_low (row_low (unhide HON) (fun k hk => (World.ownsRow.lt (unhide HON) k hk).2) (unhide HT2).b) (fun k hk => Nat.lt_of_lt_of_le (World.ownsRow.lt (unhide HON) k hk).2 (unhide HT2).b.size) hb6
                  have q0 := hR6.cell 0; have q1 := hR6.cell 1; have q2 := hR6.cell 2
                  have z0 := hX6.x.cell 0; have z1 := hX6.x.cell 1; have z2 := hX6.x.cell 2
                  have f0 := hX6.x.frozen 0; have f1 := hX6.x.frozen 1; have f2 := hX6.x.frozen 2
                  simp only [calC, List.getElem?_toArray, List.getElem?_cons_zero, List.getElem?_cons_succ] at q0 q1 q2 z0 z1 z2
                  have H6 := hide (And.intro hX6 (And.intro hN6 hS6))
                  have hlw := Lib.hid (unhide H2).x.lt
                  clear hX6 hR6 hS6 hN6 hb6 HC r0 r1 r2
                  by_cases hts : T = s
                  · have y1 : (T.toList == s.toList) = true := by rw [hts]; exact beq_self_eq_true _
                    have y2 : T.toList = s.toList := by rw [hts]
                    have hr : Hid (callO s = some ⟨nm, ns, S⟩) := Lib.hid (by rw [HL.out, if_pos hts])
                    clear hts HL
                    go_wp2_with fail
                    (try simp only [Exit.inBlock, Exit.then])
                    refine bodyPost_ret (results_call rfl _ _ w.heap.size _ _ _ rfl (blk3_put (unhide H6).1.x _ _ _)) rfl ?_
                    have hend := rd_end (w := w) (show OwnI w6 wc0.heap.size _ _ from (unhide H6).2.1) (row_mono (unhide H6).2.2 hb23.out) hlw.out (.string nm) (.slice AN ns.length cN) (.slice A4 (ws.length - m2) c4)
                    exact ⟨.inl ⟨⟨nm, ns, S⟩, _, _, hr.out, rfl, hend.1, hend.2⟩, below3_put (unhide H6).1.b (Nat.le_refl _) _ _ _⟩
                  · have y1 : (T.toList == s.toList) = false := toList_ne hts
                    have y2 : ¬ T.toList = s.toList := by rw [beq_eq_false_iff_ne] at y1; exact y1
                    have hr : Hid (callO s = none) := Lib.hid (by rw [HL.out, if_neg hts])
                    clear hts HL
                    go_wp2_with fail
                    (try simp only [Exit.inBlock, Exit.then])
                    refine bodyPost_ret (results_call rfl _ _ w.heap.size _ _ _ rfl (blk3_put (unhide H6).1.x _ _ _)) rfl ?_
                    exact ⟨.inr ⟨hr.out, rfl⟩, below3_put (unhide H6).1.b (Nat.le_refl _) _ _ _⟩
                · simp only [Ending.returned.injEq, Value.tuple.injEq, Array.mk.injEq, List.cons.injEq, and_true, Value.bool.injEq, Value.slice.injEq] at he
                  obtain ⟨⟨rfl, rfl, rfl⟩, rfl⟩ := he
                  have hr := Lib.hid (HLS.out.2.1 hns)
                  have hS := ownT_strs hT.out.t
                  have hlq := (shapeS_some HLS.out.2.2.1).2.2.2.2
                  have hssz := HLS.out.2.2.2
                  have htk : (takeC k ws).ss = ws.drop m2 := by unfold takeC; rw [hm2.out]
                  rw [htk] at hlq hssz
                  have hcall := fcall_any ⟨nm, [], ws.drop m2⟩ (.slice none 0 0) _ wc (OwnI.ints (show OwnI wc 0 (.slice none 0 0) [] from World.ownsRow_nil _ _ _ _)) hS ⟨fun z hz => absurd hz (by simp), fun x hx => by have := hssz x hx; omega⟩ (by simp) (by simp only; omega)
                  unfold fcallV at hcall
                  generalize (if CaOk ⟨nm, [], ws.drop m2⟩ then callB ⟨nm, [], ws.drop m2⟩ else ⟨#[]⟩) = T at hcall
                  generalize (if CaOk ⟨nm, [], ws.drop m2⟩ then (0 : Int) else 270) = zT at hcall
                  simp only at hcall
                  have HC := hide hcall; have HT2 := hide hT.out
                  clear hcall hS hlq hssz htk hT HF3 hns HLS hif HS
                  go_wp2_with fail
                  refine (unhide HC).mono ?_
                  rintro e6 w6 ⟨rfl, hb6⟩
                  have hX6 := (unhide HT2).x.next hb6
                  have hR6 := (unhide HT2).r.below hb6 (unhide HT2).r.lt
                  have q0 := hR6.cell 0; have q1 := hR6.cell 1; have q2 := hR6.cell 2
                  have z0 := hX6.x.cell 0; have z1 := hX6.x.cell 1; have z2 := hX6.x.cell 2
                  have f0 := hX6.x.frozen 0; have f1 := hX6.x.frozen 1; have f2 := hX6.x.frozen 2
                  simp only [calC, List.getElem?_toArray, List.getElem?_cons_zero, List.getElem?_cons_succ] at q0 q1 q2 z0 z1 z2
                  have H6 := hide hX6
                  clear hX6 hR6 hb6 HC r0 r1 r2 HT2
                  go_wp2_with fail
                  (try simp only [Exit.inBlock, Exit.then])
                  refine bodyPost_ret (results_call rfl _ _ w.heap.size _ _ _ rfl (blk3_put (unhide H6).x _ _ _)) rfl ?_
                  exact ⟨.inr ⟨hr.out, rfl⟩, below3_put (unhide H6).b (Nat.le_refl _) _ _ _⟩
          · have hr := Lib.hid (call_none4 hw hs1 hlen)
            have t4 : ¬ (ws.length : Int) = 1 + (k : Int) + (m : Int) := by omega
            have t5 : ((ws.length : Int) != 1 + (k : Int) + (m : Int)) = true := by rw [bne_iff_ne]; exact t4
            clear HS HO HIX hw hs1 HB H1
            go_wp2_with fail
            (try simp only [Exit.inBlock, Exit.then])
            refine bodyPost_ret (results_call rfl _ _ w.heap.size _ _ _ rfl (blk3_put (unhide H2).x _ _ _)) rfl ?_
            exact ⟨.inr ⟨hr.out, rfl⟩, below3_put (unhide H2).b (Nat.le_refl _) _ _ _⟩
        · rw [← hnm.out] at hs1
          have hr := Lib.hid (call_none3 hw hs1)
          clear HS HO HIX hw hs1 HB H1
          go_wp2_with fail
          (try simp only [Exit.inBlock, Exit.then])
          refine bodyPost_ret (results_call rfl _ _ w.heap.size _ _ _ rfl (blk3_put (unhide H2).x _ _ _)) rfl ?_
          exact ⟨.inr ⟨hr.out, rfl⟩, below3_put (unhide H2).b (Nat.le_refl _) _ _ _⟩
  · clear hb1 H0 HT hz1
    go_wp2_with fail
    (try simp only [Exit.inBlock, Exit.then])
    refine bodyPost_ret (results_call rfl _ _ w.heap.size _ _ _ rfl (blk3_put (unhide H1).x _ _ _)) rfl ?_
    exact ⟨.inr ⟨call_none1 hw, rfl⟩, below3_put (unhide H1).b (Nat.le_refl _) _ _ _⟩
end Go.Proofs.YtnkioabdpploeaaGreatDoor

/-
  CONTRACT of the document's Text.
-/
import Derived.Test.YtphoflcilpopgaaGreatDoorRows
import Derived.Deep.RegionHeld3
import Derived.Test.YtphoflcilpopgaaGreatDoorGBase
import Derived.Test.YtphoflcilpopgaaGreatDoorGMacs
import Derived.Test.YtphoflcilpopgaaGreatDoorGDecs
import Derived.Test.YtphoflcilpopgaaGreatDoorSRB64
import Derived.Test.YtphoflcilpopgaaGreatDoorGWhl
import Derived.Test.YtphoflcilpopgaaGreatDoorGTx
set_option linter.unusedVariables false
set_option linter.unusedSimpArgs false
namespace Go.Proofs.YtphoflcilpopgaaGreatDoor
open Go.RowKit Go.Lib
theorem step_bytesOf {ops : Array Oper} {o : Oper} {a : Act} {K : Act → World → Prop} {Q : Exit → Act → World → Prop} {E : Prop} {w : World} (hgd : o.guard = none) (x : Operand) (ho : o.op = .convert 9 81 x)
    (s : ByteArray) (hx : a.eval x = .string s) (hs : s.size ≤ maxLen)
    (h : ∀ v' w', OwnB w' w.heap.size v' s.data.toList → Below w.heap.size w w' → v'.ownBlock = some w.heap.size → K (a.put o.dst v') w') :
    if Region.wanted o (yielded ops a.tmps) = true then Oper.wp Tryz.prog o a w K Q else E := by
  have hw : Region.wanted o (yielded ops a.tmps) = true := by simp [Region.wanted, hgd]
  rw [if_pos hw]
  obtain ⟨v', w', hr, h2, h3, h4⟩ := run_bytesOf w s hs
  unfold Oper.wp execOp
  simp only [ho, hx, hr, Sem.run_bind, Sem.run_pure, Result.andThen_ok]
  exact h v' w' h2 h3 h4
set_option maxRecDepth 100000 in
set_option maxHeartbeats 4000000 in
theorem rtext_main (o r : ByteArray) (n : Int) (v : Value) (es : List ByteArray) (w : World) (ho : o.size ≤ 1099511627776) (hl : (linesL es).length ≤ 1099511627776) (hv : StrsAt w v es) (hno : nameOk o = true) (h0 : 0 ≤ n) (h1 : n ≤ 4611686018427387904) (hr1 : 1 ≤ r.size) (hr2 : r.size ≤ 32) :
    Calls Tryz.prog 18 #[.agg #[.string o, .int .i64 n, .string r, v]] w fun e w' => e = .returned (textM o n r es) ∧ Below w.heap.size w w' := by
  have Hno := hide hno; clear hno
  obtain ⟨A, c, rfl, hel⟩ := hv
  have hel' : ∀ j (h : j < es.length), ∃ a, A = some a ∧ (a.add j).block < w.heap.size ∧ w.cell? (a.add j) = some (.string es[j]) := fun j h => by
    obtain ⟨a, e, hc⟩ := hel j h
    exact ⟨a, e, World.block_lt_of_cell? w _ hc, hc⟩
  have HEL := hide hel'; clear hel hel'
  have hnes : es.length ≤ 1099511627776 := Nat.le_trans (linesL_ge es) hl
  have Hl := hide hl; clear hl
  have hd := fun w => rdec_any n w (by omega) (by omega)
  have hb := fun w => rb64_any r w (by omega)
  have HD := hide hd; have HB := hide hb; clear hd hb
  have hds : (decS n).size ≤ 20 := by
    have := digL_length 19 n.toNat (by omega) (by omega)
    show (decL n).toArray.size ≤ 20
    unfold decL
    rw [if_pos h0, List.size_toArray]
    omega
  have hbs := b64S_size r
  have hbs' : (b64S r).size ≤ 44 := by omega
  go_enter Tryz.func18, Tryz.ntmps18
  go_wp2_with fail
  refine (rname_any _ _ (by simp only [maxLen]; omega)).mono ?_
  rintro e w1 ⟨rfl, rfl⟩
  rw [unhide Hno]
  go_wp2_with fail
  obtain ⟨D, HDe⟩ : ∃ D, Hid (decS n = D) := ⟨_, Lib.hid rfl⟩
  obtain ⟨E, HEe⟩ : ∃ E, Hid (b64S r = E) := ⟨_, Lib.hid rfl⟩
  rw [HDe.out] at HD hds
  rw [HEe.out] at HB hbs'
  have hC0 : Blk (w.alloc (.cells #[.string o, .int .i64 n, .string r, .slice A es.length c] 30)) w.heap.size 30 #[.string o, .int .i64 n, .string r, .slice A es.length c] := Blk.new w _ _
  have hw0 : Below w.heap.size w (w.alloc (.cells #[.string o, .int .i64 n, .string r, .slice A es.length c] 30)) := (Below.refl _ _).alloc (Nat.le_refl _) _
  have hsz0 : (w.alloc (.cells #[.string o, .int .i64 n, .string r, .slice A es.length c] 30)).heap.size = w.heap.size + 1 := by simp
  generalize (w.alloc (.cells #[.string o, .int .i64 n, .string r, .slice A es.length c] 30)) = w0 at *
  have k0 := hC0.cell 0
  have k1 := hC0.cell 1
  have k2 := hC0.cell 2
  simp only [List.getElem?_toArray, List.getElem?_cons_zero, List.getElem?_cons_succ] at k0 k1 k2
  have x1 : ¬ (9223372036854775807 < o.size + 1) := by omega
  have x2 : ¬ (9223372036854775807 < o.size + 1 + D.size) := by omega
  have x3 : ¬ (9223372036854775807 < o.size + 1 + D.size + 1) := by omega
  have x4 : ¬ (9223372036854775807 < o.size + 1 + D.size + 1 + E.size) := by omega
  have x5 : ¬ (9223372036854775807 < o.size + 1 + D.size + 1 + E.size + 1) := by omega
  have e10 : (⟨#[10]⟩ : ByteArray).size = 1 := rfl
  have H0 := hide (And.intro hC0 (And.intro hw0 hsz0)); clear hC0 hw0 hsz0
  have hDW : ∀ W, Calls Tryz.prog 37 #[.int .i64 n] W fun e w' => e = .returned (.string D) ∧ w' = W := fun W => (unhide HD W).mono fun e w' h => ⟨h.1, h.2.symm⟩
  have hEW : ∀ W, Calls Tryz.prog 39 #[.string r] W fun e w' => e = .returned (.string E) ∧ w' = W := fun W => (unhide HB W).mono fun e w' h => ⟨h.1, h.2.symm⟩
  have HDW := hide hDW; have HEW := hide hEW; clear hDW hEW
  go_still_tail 13, (by kernel_rfl)
  still_call (unhide HDW _)
  repeat still_step
  still_call (unhide HEW _)
  repeat still_step
  try refine wpStill_nil ?_
  change wpList _ _ _ _ _ (World.drew _)
  have HFE : Hid ((o ++ ⟨#[10]⟩ ++ D ++ ⟨#[10]⟩ ++ E ++ ⟨#[10]⟩ : ByteArray) = headB o n r) := by unfold headB; rw [HDe.out, HEe.out]; rfl
  have hfs : (headB o n r).size ≤ 2199023255552 := by
    rw [← HFE.out]
    simp only [ByteArray.size_append, e10]
    omega
  have HFS := hide hfs; clear hfs
  go_wp2_with (first | (refine wpList_bytesOf _ rfl (.tmp 44) rfl _ rfl (by simp only [maxLen, ByteArray.size_append, e10]; omega) ?_; intro v1 w1 hO1 hb1 hv1; have H1 := hide (And.intro hO1 (And.intro hb1 hv1)); clear hO1 hb1 hv1))
  have hC1 : Blk w1 w.heap.size 30 #[.string o, .int .i64 n, .string r, .slice A es.length c] := (unhide H0).1.drew.below (unhide H1).2.1 (unhide H0).1.lt
  have hw1 : Below w.heap.size w w1 := (unhide H0).2.1.drew.trans ((unhide H1).2.1.mono (by have h := (unhide H0).2.2; show w.heap.size ≤ w0.heap.size; omega))
  have hO1 : OwnB w1 (w.heap.size + 1) v1 ((headB o n r).data.toList ++ linesL (es.take 0)) := by
    have h := (unhide H1).1
    rw [HFE.out] at h
    rw [show linesL (es.take 0) = [] from rfl, List.append_nil]
    exact h.mono (by have h := (unhide H0).2.2; show w.heap.size + 1 ≤ w0.heap.size; omega)
  have H2 := hide (And.intro hC1 (And.intro hw1 hO1)); clear hC1 hw1 hO1 H1
  rename_i a1 a2 a3 aK aQ
  clear a1 a2 a3 x1 x2 x3 x4 x5 h0 h1 hr1 hr2 k0 k1 k2 hds hbs hbs' H0 e10
  go_loopw [5, 6] (fun b i wr => ∃ k : Nat, k ≤ es.length ∧ i = .int .i64 k ∧ Hid (∀ j (h : j < es.length), j < k → lineOk es[j] = true) ∧ Blk wr w.heap.size 30 #[.string o, .int .i64 n, .string r, .slice A es.length c] ∧ OwnB wr (w.heap.size + 1) b ((headB o n r).data.toList ++ linesL (es.take k)) ∧ Below w.heap.size w wr) (fun _ i _ => es.length - (RowKit.intOf i).toNat)
  case atStart => exact ⟨0, by omega, rfl, Lib.hid (fun j _ h => by omega), (unhide H2).1, (unhide H2).2.2, (unhide H2).2.1⟩
  case round =>
    clear H2
    obtain ⟨k, hk, rfl, hok, hC, hO, hb⟩ := hrel
    have k3 := hC.cell 3
    simp only [List.getElem?_toArray, List.getElem?_cons_zero, List.getElem?_cons_succ] at k3
    have HX := hide (And.intro hok (And.intro hC (And.intro hO hb))); clear hok hC hO hb
    rcases Nat.lt_or_ge k es.length with hlt | hge
    · obtain ⟨a, rfl, hab, hac⟩ := unhide HEL k hlt
      have hcx : wr.cell? (a.add k) = some (.string es[k]) := ((unhide HX).2.2.2.cell hab).trans hac
      have hxs : es[k].size ≤ 1099511627776 := by have := linesL_at es k hlt; have := unhide Hl; omega
      have hno : Hid (∀ x, es[k] = x → lineOk x = false → textM o n r es = .tuple #[.string ⟨#[]⟩, .int .i64 43]) := fun x e h => textM_no hlt (by rw [e]; exact h)
      generalize hxe : es[k] = x at hcx hxs
      have HXE := Lib.hid hxe
      have hab' := Lib.hid (And.intro hab hac)
      clear hab hac hxe
      have hpl := rplain_any false x wr (by simp only [maxLen]; omega)
      have hwh := rwhole_any x wr (by omega)
      have HPW := hide (And.intro hpl hwh); clear hpl hwh
      have hlo : Hid (lineOk x = (decide (x.size ≠ 0) && (plainB false x 0 && validP x 0))) := by unfold lineOk; rw [wholeP_eq]; rfl
      go_wp2_with fail
      refine (unhide HPW).1.mono ?_
      rintro e w4 ⟨rfl, rfl⟩
      go_wp2_with fail
      refine (unhide HPW).2.mono ?_
      rintro e w5 ⟨rfl, hb5⟩
      have hb5' : Below w.heap.size w w5 := (unhide HX).2.2.2.trans (hb5.mono (unhide HX).2.2.2.size)
      have hC5 := (unhide HX).2.1.below hb5 (unhide HX).2.1.lt
      have hO5 := (unhide HX).2.2.1.below hb5
      have k3' := hC5.cell 3
      simp only [List.getElem?_toArray, List.getElem?_cons_zero, List.getElem?_cons_succ] at k3'
      have hcx' : w5.cell? (a.add k) = some (.string x) := by
        have h := (hb5'.cell hab'.out.1).trans hab'.out.2
        rw [HXE.out] at h
        exact h
      have H5 := hide (And.intro hb5' (And.intro hC5 hO5)); clear hb5' hC5 hO5 hb5 HPW k3 hcx
      generalize plainB false x 0 = p at hlo ⊢
      generalize validP x 0 = u at hlo ⊢
      by_cases hx0 : x.toList = []
      · have hres : Hid (textM o n r es = .tuple #[.string ⟨#[]⟩, .int .i64 43]) := hno.out x HXE.out (by
          rw [ByteArray.toList_eq] at hx0
          have : x.size = 0 := by have h := congrArg List.length hx0; rw [Array.length_toList] at h; exact h
          simp [lineOk, this])
        have hie : x.toList.isEmpty = true := by simpa using hx0
        go_wp2_with fail
        go_ret2
        exact ⟨by rw [hres.out]; rfl, (unhide H5).1⟩
      · have hie : x.toList.isEmpty = false := by simpa using hx0
        have hsz : Hid (x.size ≠ 0) := fun h => hx0 (by
          rw [ByteArray.toList_eq]
          exact List.eq_nil_of_length_eq_zero (by rw [Array.length_toList]; exact h))
        cases p with
        | false =>
          have hres : Hid (textM o n r es = .tuple #[.string ⟨#[]⟩, .int .i64 43]) := hno.out x HXE.out (by rw [hlo.out]; simp)
          go_wp2_with fail
          go_ret2
          exact ⟨by rw [hres.out]; rfl, (unhide H5).1⟩
        | true =>
          cases u with
          | false =>
            have hres : Hid (textM o n r es = .tuple #[.string ⟨#[]⟩, .int .i64 43]) := hno.out x HXE.out (by rw [hlo.out]; simp)
            go_wp2_with fail
            go_ret2
            exact ⟨by rw [hres.out]; rfl, (unhide H5).1⟩
          | true =>
            have hyes : Hid (lineOk x = true) := by rw [Hid, hlo.out]; simp [hsz.out]
            have hlen : ((headB o n r).data.toList ++ linesL (es.take k)).length + x.size + 1 ≤ 140737488355328 := by
              have h1 := linesL_take_le es k
              have h2 := unhide Hl
              have h3 := unhide HFS
              rw [List.length_append, Array.length_toList]
              have : (headB o n r).data.size = (headB o n r).size := rfl
              omega
            have Hlen := hide hlen; clear hlen
            have hbs : w.heap.size + 1 ≤ w5.heap.size := (unhide H5).2.1.lt
            go_wp2_with (first | (at_builtin; refine wpList_app_str _ rfl (.tmp 79) (.tmp 84) rfl (unhide H5).2.2 rfl x rfl (by have := unhide Hlen; omega) hbs ?_; intro v6 w6 hO6 hg6 hat6; have H6 := hide (And.intro hO6 (And.intro hg6 hat6)); clear hO6 hg6 hat6) | (at_builtin; refine wpList_app1 w6 rfl (.tmp 86) (.tmp 87) rfl (unhide H6).1 rfl rfl (by omega) (by omega) (by have := unhide Hlen; rw [List.length_append, Array.length_toList]; exact this) (Nat.le_trans hbs (unhide H6).2.1.size) ?_; intro v7 w7 hO7 hg7 hat7; have H7 := hide (And.intro hO7 (And.intro hg7 hat7)); clear hO7 hg7 hat7))
            have n5 : some w.heap.size ≠ u5.ownBlock := fun e => by have := ((unhide H5).2.2.lt _ e.symm).1; omega
            have n6 : some w.heap.size ≠ v6.ownBlock := fun e => by have := ((unhide H6).1.lt _ e.symm).1; omega
            go_roundw
            case rel =>
              refine ⟨k + 1, by omega, by go_num, Lib.hid (fun j hj hjk => ?_), (((unhide H5).2.1.grown (unhide H6).2.1 n5).alloc _).grown (unhide H7).2.1 n6, ?_, ?_⟩
              · rcases Nat.lt_succ_iff_lt_or_eq.1 hjk with h' | rfl
                · exact (unhide HX).1.out j hj h'
                · rw [HXE.out]; exact hyes.out
              · rw [linesL_take_succ es k hlt, HXE.out, ← List.append_assoc, ← List.append_assoc]
                exact (unhide H7).1
              · have h6 := (unhide H5).1.grown (unhide H6).2.1 (unhide H5).1.size (fun j hj => by have := ((unhide H5).2.2.lt _ hj).1; omega)
                exact (h6.alloc h6.size _).grown (unhide H7).2.1 (by have := h6.size; simp; omega) (fun j hj => by have := ((unhide H6).1.lt _ hj).1; omega)
            case measure => simp [RowKit.intOf]; omega
    · have hke : k = es.length := by omega
      have hO := (unhide HX).2.2.1
      rw [List.take_of_length_le (by omega)] at hO
      have hres : Hid (textM o n r es = .tuple #[.string ⟨((headB o n r).data.toList ++ linesL es).toArray⟩, .int .i64 0]) := textM_yes (fun j h => (unhide HX).1.out j h (by omega))
      have hcv := conv_own hO
      have Hk := Lib.hid hke; clear hO hke
      go_wp2_with fail
      go_ret2
      exact ⟨by rw [hres.out]; rfl, (unhide HX).2.2.2⟩
end Go.Proofs.YtphoflcilpopgaaGreatDoor

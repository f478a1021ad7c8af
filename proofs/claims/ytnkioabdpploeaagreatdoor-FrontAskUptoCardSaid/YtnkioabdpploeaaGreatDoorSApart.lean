/-
  CONTRACT of the law's apart.
-/
import Derived.Test.YtnkioabdpploeaaGreatDoorRows
import Derived.Deep.RegionLaw
import Derived.Test.YtnkioabdpploeaaGreatDoorGBase
import Derived.Test.YtnkioabdpploeaaGreatDoorGApt
import Derived.Test.YtnkioabdpploeaaGreatDoorGLns
import Derived.Test.YtnkioabdpploeaaGreatDoorGDecs
set_option linter.unusedVariables false
set_option linter.unusedSimpArgs false
namespace Go.Proofs.YtnkioabdpploeaaGreatDoor
open Go.RowKit Go.Lib
/-- The mark of the q-th list. -/
def markQ (q : Nat) : ByteArray := ⟨#[109, 97, 114, 107]⟩ ++ ⟨#[UInt8.ofNat (97 + q)]⟩
def mkQ (q : Nat) : Value := .string (markQ q)
theorem conv_mark (W : World) (g q : Nat) (z : Int) (hq : q < 26) (hz : z = 97 + (q : Int)) (hc : W.cell? ⟨g, 0, none⟩ = some (.int .u8 z)) : (convert 84 9 (.slice (some ⟨g, 0, none⟩) 1 1)).run Tryz.prog W = .ok (.string ⟨#[UInt8.ofNat (97 + q)]⟩) W := by
  have h := conv_row' (w := W) (g := g) (off := 0) (cap := 1) (bs := [UInt8.ofNat (97 + q)]) (fun j hj => by
    obtain rfl : j = 0 := by simpa using hj
    rw [Nat.zero_add, hc, hz]
    simp [UInt8.toNat_ofNat]
    omega)
  exact h
theorem wrap_mark {q : Nat} (hq : q < 26) : IntKind.u8.wrap (IntKind.i64.wrap (97 + (q : Int))) = 97 + (q : Int) := by
  have h1 : IntKind.i64.wrap (97 + (q : Int)) = 97 + (q : Int) := by simp [IntKind.wrap, IntKind.bits]; omega
  rw [h1]
  simp [IntKind.wrap, IntKind.bits]; omega
set_option maxRecDepth 100000 in
set_option maxHeartbeats 4000000 in
theorem apart_any (vL : Value) (bL base n : Nat) (lst : List Value) (ms : Nat → Nat) (w : World) (hn : n ≤ 26) (hm : ∀ q, q < n → ms q ≤ 1099511627776)
    (hL : w.ownsRow bL 23 1 vL n lst) (h0 : Ap1 w w base 9 n (fun q => lst.getD q (.slice none 0 0)) ms mkQ (fun _ => 0)) :
    Calls Tryz.prog 29 #[vL] w fun e w' => e = .returned (.bool true) ∧ KeepT 9 base w w' := by
  have HV := Lib.hid (rfl : (fun q => lst.getD q (.slice none 0 0)) = (fun q => lst.getD q (.slice none 0 0)))
  obtain ⟨vs, hvs⟩ : ∃ vs : Nat → Value, Hid ((fun q => lst.getD q (.slice none 0 0)) = vs) := ⟨_, Lib.hid rfl⟩
  have hR : ∀ W, KeepT 9 base w W → RowsAt W vL n vs := fun W hk => by rw [← hvs.out]; exact own_rows (hk.row (by decide) hL)
  rw [hvs.out] at h0
  obtain ⟨AL, cL, rfl, -⟩ := id (hR w (KeepT.refl _ _ _))
  have HR := hide hR; have H0 := hide h0; have HM := hide hm; clear hR h0 hm hL HV
  go_enter Tryz.func29, Tryz.ntmps29
  go_wp2_with fail
  go_loopw [3, 4] (fun i _ W => ∃ k : Nat, i = .int .i64 (k : Int) ∧ k ≤ n ∧ Ap1 w W base 9 n vs ms mkQ (fun q => if q < k then ms q else 0)) (fun i _ _ => n - (RowKit.intOf i).toNat)
  case atStart => exact ⟨0, rfl, Nat.zero_le _, by simpa using unhide H0⟩
  case round =>
    obtain ⟨k, rfl, hk, hX⟩ := hrel
    clear H0
    have t0 : (0 : Int) ≤ (k : Int) := by omega
    rcases Nat.lt_or_ge k n with hlt | hge
    · have t1 : (k : Int) < (n : Int) := by omega
      have qb : k < 26 := by omega
      have hmk := unhide HM k hlt
      obtain ⟨l0, hl0, -⟩ := hX.v k hlt
      obtain ⟨Ak, ck, hvk, hAk⟩ := row_form hl0
      have HVK := Lib.hid hvk
      obtain ⟨mk, hmk2⟩ : ∃ m, Hid (ms k = m) := ⟨_, Lib.hid rfl⟩
      rw [hmk2.out] at hmk hAk hvk
      have HX := hide hX; have HA := hide hAk
      obtain ⟨aL, rfl, -⟩ := rows_at (unhide HR _ (unhide HX).k) k hlt
      have hca : ∀ W, KeepT 9 base w W → W.cell? (aL.add k) = some (.slice Ak mk ck) := fun W hW => by
        have h := (rows_at (unhide HR W hW) k hlt)
        obtain ⟨a, ha, hc⟩ := h
        injection ha with ha
        subst ha
        rw [hvk] at hc
        exact hc
      have HCA := hide hca
      clear hX hAk hl0 hvk hca
      go_wp2_with fail
      obtain ⟨wo, rfl⟩ : ∃ wo : World, wo = wr := ⟨_, rfl⟩
      go_loopw [4] (fun i W => ∃ j : Nat, i = .int .i64 (j : Int) ∧ j ≤ mk ∧ Ap1 w W base 9 n vs ms mkQ (fun q => if q < k then ms q else if q = k then j else 0)) (fun i _ => mk - (RowKit.intOf i).toNat)
      case atStart => exact ⟨0, rfl, Nat.zero_le _, (unhide HX).next (fun q hq => by split <;> simp)⟩
      case round =>
        obtain ⟨j, rfl, hj, hY⟩ := hrel
        clear HX
        have t2 : (0 : Int) ≤ (j : Int) := by omega
        have c0 := unhide HCA wr hY.k
        rcases Nat.lt_or_ge j mk with hjl | hjg
        · have t3 : (j : Int) < (mk : Int) := by omega
          have qj : j ≤ 1099511627776 := by omega
          obtain ⟨g, rfl⟩ := unhide HA (by omega)
          have hm26 : (k : Int).tmod 26 = (k : Int) := by rw [Int.tmod_eq_emod_of_nonneg (by omega)]; omega
          obtain ⟨l1, hl1, -⟩ := hY.v k hlt
          rw [HVK.out, hmk2.out] at hl1
          have hlz : l1.length = mk := by rw [hl1.1]; omega
          have d0 := World.ownsRow.cellAt hl1 j (by omega)
          have e0 := row_frozen hl1 j
          rw [List.getElem?_eq_getElem (by omega)] at d0
          have hcv := conv_mark (wr.alloc (.cells #[.int .u8 (IntKind.u8.wrap (IntKind.i64.wrap (97 + (k : Int))))] 5)).drew wr.heap.size k _ qb (wrap_mark qb) ((Blk.new wr 5 #[.int .u8 (IntKind.u8.wrap (IntKind.i64.wrap (97 + (k : Int))))]).drew.cell 0)
          have KA := hY.k.alloc hY.hs (.cells #[.int .u8 (IntKind.u8.wrap (IntKind.i64.wrap (97 + (k : Int))))] 5)
          have c1 := unhide HCA _ KA
          have d1 := World.ownsRow.cellAt (World.ownsRow.alloc hl1 (.cells #[.int .u8 (IntKind.u8.wrap (IntKind.i64.wrap (97 + (k : Int))))] 5)) j (by omega)
          have e1 := row_frozen (World.ownsRow.alloc hl1 (.cells #[.int .u8 (IntKind.u8.wrap (IntKind.i64.wrap (97 + (k : Int))))] 5)) j
          rw [List.getElem?_eq_getElem (by omega)] at d1
          have HY := hide hY; have HL := hide hl1
          clear hY hl1 KA
          generalize l1[j] = x0 at *
          clear hlz
          obtain ⟨mc, hmc⟩ : ∃ mc, Hid (UInt8.ofNat (97 + k) = mc) := ⟨_, Lib.hid rfl⟩
          rw [hmc.out] at hcv
          go_wp2_with fail
          go_region_law (fail)
          all_goals
            go_wp2_with fail
            refine ⟨⟨j + 1, by go_num, by omega, (unhide HY).mark _ (by unfold mkQ markQ; rw [hmc.out]) hlt HVK.out (by simp) (by have := hmk2.out; omega) (by simp) (fun q hq => by simp [hq])⟩, by simp [RowKit.intOf]; omega⟩
        · have t3 : ¬ (j : Int) < (mk : Int) := by omega
          have HY := hide (hY.next (f' := fun q => if q < k + 1 then ms q else 0) (fun q hq => by
            have := hmk2.out
            by_cases h2 : q = k
            · subst h2; simp; omega
            · by_cases h1 : q < k
              · simp [h1, show q < k + 1 by omega]
              · simp [h1, h2, show ¬ q < k + 1 by omega]))
          clear hY
          go_wp2_with fail
          exact ⟨⟨k + 1, by go_num, by omega, unhide HY⟩, by simp [RowKit.intOf]; omega⟩
    · have t1 : ¬ (k : Int) < (n : Int) := by omega
      have HX2 := hide (hX.full (fun q hq => by rw [if_pos (by omega)]))
      clear hX
      have HX3 := hide ((unhide HX2).next (us' := fun q => if q < 0 then (.slice none 0 0) else vs q) (es' := fun q => if q < 0 then 64 else 0) (fun q hq => by simp) (fun q hq => by simp))
      clear HX2
      go_wp2_with fail
      obtain ⟨w1, rfl⟩ : ∃ w1 : World, w1 = wr := ⟨_, rfl⟩
      go_loopw [5, 6, 7, 8] (fun more i _ _ W => ∃ (k : Nat) (ls : List Value), i = .int .i64 (k : Int) ∧ k ≤ n ∧ Hid (W.ownsRow w.heap.size 23 1 more k ls) ∧ Ap2 w W base 9 n vs (fun q => if q < k then ls.getD q (.slice none 0 0) else vs q) ms (fun q => if q < k then 64 else 0) mkQ) (fun _ i _ _ _ => n - (RowKit.intOf i).toNat)
      case atStart => exact ⟨0, [], rfl, Nat.zero_le _, Lib.hid (World.ownsRow_nil _ _ _ _), by simpa using unhide HX3⟩
      case round =>
        obtain ⟨k, ls, rfl, hk, hO, hX⟩ := hrel
        clear HX3
        have t0 : (0 : Int) ≤ (k : Int) := by omega
        rcases Nat.lt_or_ge k n with hlt | hge
        · have t1 : (k : Int) < (n : Int) := by omega
          have qb : k < 26 := by omega
          have hmk := unhide HM k hlt
          obtain ⟨Ak, ck, hvk, hAk⟩ := row_form (hX.v k hlt)
          have HVK := Lib.hid hvk
          obtain ⟨mk, hmk2⟩ : ∃ m, Hid (ms k = m) := ⟨_, Lib.hid rfl⟩
          rw [hmk2.out] at hmk hAk hvk
          obtain ⟨aL, rfl, c0⟩ := rows_at (unhide HR _ hX.k) k hlt
          rw [hvk] at c0
          have HX := hide (hX.next (us' := fun q => if q < k then ls.getD q (.slice none 0 0) else if q = k then vs k else vs q) (es' := fun q => if q < k then 64 else if q = k then 0 else 0) (fun q hq => by by_cases h : q = k <;> simp [h]) (fun q hq => by simp))
          clear hX hvk
          go_wp2_with fail
          obtain ⟨wo, rfl⟩ : ∃ wo : World, wo = wr := ⟨_, rfl⟩
          go_loopw [7, 8] (fun l i W => ∃ j : Nat, i = .int .i64 (j : Int) ∧ j ≤ 64 ∧ KeepT 9 base wo W ∧ Ap2 w W base 9 n vs (fun q => if q < k then ls.getD q (.slice none 0 0) else if q = k then l else vs q) ms (fun q => if q < k then 64 else if q = k then j else 0) mkQ) (fun _ i _ => 64 - (RowKit.intOf i).toNat)
          case atStart => exact ⟨0, rfl, by omega, KeepT.refl _ _ _, by rw [← hmk2.out, ← HVK.out]; exact unhide HX⟩
          case round =>
            obtain ⟨j, rfl, hj, hK, hY⟩ := hrel
            clear HX
            have t2 : (0 : Int) ≤ (j : Int) := by omega
            rcases Nat.lt_or_ge j 64 with hjl | hjg
            · have t3 : (j : Int) < 64 := by omega
              have hm26 : (k : Int).tmod 26 = (k : Int) := by rw [Int.tmod_eq_emod_of_nonneg (by omega)]; omega
              obtain ⟨mc, hmc⟩ : ∃ mc, Hid (UInt8.ofNat (97 + k) = mc) := ⟨_, Lib.hid rfl⟩
              have hcv := conv_mark (wr.alloc (.cells #[.int .u8 (97 + (k : Int))] 5)) wr.heap.size k _ qb rfl ((Blk.new wr 5 #[.int .u8 (97 + (k : Int))]).cell 0)
              rw [hmc.out] at hcv
              have hmq : Hid (mkQ k = .string ({ data := #[109, 97, 114, 107] } ++ { data := #[mc] })) := Lib.hid (by unfold mkQ markQ; rw [hmc.out])
              have hb2 : Below wr.heap.size wr ((wr.alloc (.cells #[.int .u8 (97 + (k : Int))] 5)).alloc (.cells #[.string ({ data := #[109, 97, 114, 107] } ++ { data := #[mc] })] 9)) := ((Below.refl _ _).alloc (Nat.le_refl _) _).alloc (by simp) _
              have hY2 := hY.call hb2
              have hK2 := hK.call hY.hs hb2
              have hu := hY2.u k hlt
              simp only [Nat.lt_irrefl, if_false, if_true] at hu
              rw [hmq.out, hmk2.out] at hu
              have HY := hide (And.intro hY2 (And.intro hK2 hu))
              clear hY hY2 hK hK2 hu hb2
              have hcu : Hid (((wr.alloc (.cells #[.int .u8 (97 + (k : Int))] 5)).alloc (.cells #[.string ({ data := #[109, 97, 114, 107] } ++ { data := #[mc] })] 9)).cell? ⟨wr.heap.size + 1, 0, none⟩ = some (.string ({ data := #[109, 97, 114, 107] } ++ { data := #[mc] }))) := Lib.hid (by
                have h := (Blk.new (wr.alloc (.cells #[.int .u8 (97 + (k : Int))] 5)) 9 #[.string ({ data := #[109, 97, 114, 107] } ++ { data := #[mc] })]).cell 0
                rw [World.size_alloc] at h; exact h)
              have hjk : mk + j + 1 ≤ 4398046511104 := by omega
              have hjk2 : (mk + j + 1) * 16 ≤ 140737488355328 := by omega
              go_wp2_with (at_builtin; go_must (refine wpList_apT _ rfl _ _ rfl (unhide HY).2.2 rfl hcu.out rfl hjk ?_); intro v1 w3 hG; have HG := hide hG; clear hG)
              generalize ((wr.alloc (.cells #[.int .u8 (97 + (k : Int))] 5)).alloc (.cells #[.string ({ data := #[109, 97, 114, 107] } ++ { data := #[mc] })] 9)) = w2 at *
              have hgr := unhide HG
              rw [← hmq.out] at hgr
              have hro := (unhide HY).2.2
              rw [← hmq.out] at hro
              have hY3 := (unhide HY).1.grew (us' := fun q => if q < k then ls.getD q (.slice none 0 0) else if q = k then v1 else vs q) (es' := fun q => if q < k then 64 else if q = k then j + 1 else 0) (v' := v1) hlt (by simpa [hmk2.out] using hgr) (by simp) (fun q hq => by simp [hq]) (by simp) (fun q hq => by simp [hq])
              have hK3 := (unhide HY).2.1.grew hgr hro (unhide HY).1.hs (Nat.le_refl _)
              exact ⟨⟨j + 1, by go_num, by omega, hK3, hY3⟩, by simp [RowKit.intOf]; omega⟩
            · have t3 : ¬ (j : Int) < 64 := by omega
              obtain rfl : j = 64 := by omega
              have hO2 := hK.row (by decide) hO.out
              have hu := hY.u k hlt
              simp only [Nat.lt_irrefl, if_false, if_true] at hu
              obtain ⟨Au, cu, rfl, -⟩ := row_form hu
              obtain ⟨mu, hmu⟩ : ∃ mu, ms k + 64 = mu := ⟨_, rfl⟩
              rw [hmu] at hY hu ⊢
              have hY2 := (hY.call ((Below.refl wr.heap.size wr).alloc (Nat.le_refl _) (.cells #[.slice Au mu cu] 23)))
              have hO3 := World.ownsRow.alloc hO2 (.cells #[.slice Au mu cu] 23)
              have hcu : Hid ((wr.alloc (.cells #[.slice Au mu cu] 23)).cell? ⟨wr.heap.size, 0, none⟩ = some (.slice Au mu cu)) := Lib.hid ((Blk.new wr 23 #[.slice Au mu cu]).cell 0)
              have hkn : k + 1 ≤ 1099511627776 := by omega
              have HY := hide (And.intro hY2 hO3)
              clear hY hY2 hO2 hO3 hK hu hO
              go_wp2_with (at_builtin; go_must (refine wpList_apTS _ rfl _ _ rfl (unhide HY).2 rfl hcu.out rfl rfl hkn ?_); intro v1 w3 hG; have HG := hide hG; clear hG)
              have hlk : ls.length = k := by have := (unhide HY).2.1; omega
              have hY3 := ((unhide HY).1.more (by decide) (unhide HY).2 (unhide HG)).next (us' := fun q => if q < k + 1 then (ls ++ [Value.slice Au mu cu]).getD q (Value.slice none 0 0) else vs q) (es' := fun q => if q < k + 1 then 64 else 0) (fun q hq => by
                by_cases h2 : q = k
                · subst h2
                  rw [if_pos (by omega), getD_last _ _ _ _ hlk, if_neg (by omega), if_pos rfl]
                · by_cases h1 : q < k
                  · rw [if_pos (by omega), getD_front _ _ _ _ (by omega), if_pos h1]
                  · rw [if_neg (by omega), if_neg h1, if_neg h2]) (fun q hq => by
                by_cases h2 : q = k
                · subst h2; simp
                · by_cases h1 : q < k
                  · simp [h1, show q < k + 1 by omega]
                  · simp [h1, h2, show ¬ q < k + 1 by omega])
              have hR3 := (unhide HG).row (unhide HY).1.k.b.size
              exact ⟨⟨k + 1, ls ++ [.slice Au mu cu], by go_num, by omega, Lib.hid hR3, hY3⟩, by simp [RowKit.intOf]; omega⟩
        · have t1 : ¬ (k : Int) < (n : Int) := by omega
          obtain rfl : k = n := by omega
          obtain ⟨us, hus⟩ : ∃ us : Nat → Value, Hid ((fun q => ls.getD q (.slice none 0 0)) = us) := ⟨_, Lib.hid rfl⟩
          have hX2 := hX.next (us' := us) (es' := fun _ => 64) (fun q hq => by rw [← hus.out]; simp [hq]) (fun q hq => by simp [hq])
          have hQ : ∀ W, KeepT 9 base wr W → RowsAt W u5 k us := fun W hk => by rw [← hus.out]; exact own_rows (hk.row (by decide) hO.out)
          obtain ⟨AM, cM, rfl, -⟩ := id (hQ wr (KeepT.refl _ _ _))
          have HQ := hide hQ; have HX := hide hX2
          clear hX hX2 hQ hO
          go_wp2_with fail
          obtain ⟨w2, rfl⟩ : ∃ w2 : World, w2 = wr := ⟨_, rfl⟩
          go_loopw [9, 10, 11] (fun i _ _ W => ∃ q : Nat, i = .int .i64 (q : Int) ∧ q ≤ k ∧ KeepT 9 base w2 W ∧ Ap2 w W base 9 k vs us ms (fun _ => 64) mkQ) (fun i _ _ _ => k - (RowKit.intOf i).toNat)
          case atStart => exact ⟨0, rfl, Nat.zero_le _, KeepT.refl _ _ _, unhide HX⟩
          case round =>
            obtain ⟨q, rfl, hq, hK, hY⟩ := hrel
            clear HX
            have t0 : (0 : Int) ≤ (q : Int) := by omega
            rcases Nat.lt_or_ge q k with hlt | hge
            · have t1 : (q : Int) < (k : Int) := by omega
              have qb : q < 26 := by omega
              have hm26 : (q : Int).tmod 26 = (q : Int) := by rw [Int.tmod_eq_emod_of_nonneg (by omega)]; omega
              obtain ⟨mc, hmc⟩ : ∃ mc, Hid (UInt8.ofNat (97 + q) = mc) := ⟨_, Lib.hid rfl⟩
              have hcv := conv_mark (wr.alloc (.cells #[.int .u8 (97 + (q : Int))] 5)) wr.heap.size q _ qb rfl ((Blk.new wr 5 #[.int .u8 (97 + (q : Int))]).cell 0)
              rw [hmc.out] at hcv
              have hb2 : Below wr.heap.size wr (wr.alloc (.cells #[.int .u8 (97 + (q : Int))] 5)) := (Below.refl _ _).alloc (Nat.le_refl _) _
              have hY2 := hY.call hb2
              have hK2 := hK.call hY.hs hb2
              have HY := hide (And.intro hY2 hK2)
              clear hY hK hY2 hK2 hb2
              go_wp2_with fail
              generalize (wr.alloc (.cells #[.int .u8 (97 + (q : Int))] 5)) = w3 at *
              obtain ⟨S, hS⟩ : ∃ S, Hid (({ data := #[109, 97, 114, 107] } ++ { data := #[mc] } : ByteArray) = S) := ⟨_, Lib.hid rfl⟩
              rw [hS.out]
              have hmq : mkQ q = .string S := by unfold mkQ markQ; rw [hmc.out, hS.out]
              have hu := (unhide HY).1.u q hlt
              have hv := (unhide HY).1.v q hlt
              rw [hmq] at hu hv
              obtain ⟨AM, rfl, cu⟩ := rows_at (unhide HQ w3 (unhide HY).2) q hlt
              obtain ⟨AV, rfl, cv⟩ := rows_at (unhide HR w3 (unhide HY).1.k) q hlt
              obtain ⟨mq, hmq2⟩ : ∃ m, Hid (ms q = m) := ⟨_, Lib.hid rfl⟩
              have hmb := unhide HM q hlt
              rw [hmq2.out] at hu hv hmb
              obtain ⟨Bu, du, hfu, hgu⟩ := row_form hu
              obtain ⟨Bv, dv, hfv, hgv⟩ := row_form hv
              obtain ⟨gu, rfl⟩ := hgu (by omega)
              rw [hfu] at cu hu
              rw [hfv] at cv hv
              have HU := hide hu; have HV := hide hv; have HGV := hide hgv
              have hss : (S.toList == S.toList) = true := beq_self_eq_true _
              clear hu hv hfu hfv hmq hgv
              go_loopw [11] (fun j W => ∃ z : Nat, j = .int .i64 (z : Int) ∧ z ≤ mq + 64 ∧ Hid (W = w3)) (fun j _ => mq + 64 - (RowKit.intOf j).toNat)
              case atStart => exact ⟨0, rfl, by omega, Lib.hid rfl⟩
              case round =>
                obtain ⟨z, rfl, hz, hw⟩ := hrel
                have hw' := hw.out
                subst hw'
                have s0 : (0 : Int) ≤ (z : Int) := by omega
                rcases Nat.lt_or_ge z (mq + 64) with hzl | hzg
                · have s1 : (z : Int) < (mq : Int) + 64 := by omega
                  have zb : z ≤ 1099511627840 := by omega
                  have eu := World.ownsRow.cellAt (unhide HU) z (by omega)
                  rw [List.getElem?_replicate, if_pos hzl] at eu
                  rcases Nat.lt_or_ge z mq with hzv | hzw
                  · have s2 : (z : Int) < (mq : Int) := by omega
                    obtain ⟨gv, rfl⟩ := unhide HGV (by omega)
                    have ev := World.ownsRow.cellAt (unhide HV) z (by omega)
                    rw [List.getElem?_replicate, if_pos hzv] at ev
                    go_wp2_with fail
                    exact ⟨⟨z + 1, by go_num, by omega, Lib.hid (by first | trivial | rfl)⟩, by simp [RowKit.intOf]; omega⟩
                  · have s2 : ¬ (z : Int) < (mq : Int) := by omega
                    go_wp2_with fail
                    exact ⟨⟨z + 1, by go_num, by omega, Lib.hid (by first | trivial | rfl)⟩, by simp [RowKit.intOf]; omega⟩
                · have s1 : ¬ (z : Int) < (mq : Int) + 64 := by omega
                  go_wp2_with fail
                  exact ⟨⟨q + 1, by go_num, by omega, (unhide HY).2, (unhide HY).1⟩, by simp [RowKit.intOf]; omega⟩
            · have t1 : ¬ (q : Int) < (k : Int) := by omega
              have HY := hide hY
              clear hY hK
              go_wp2_with fail
              go_ret
              exact ⟨rfl, (unhide HY).k⟩
end Go.Proofs.YtnkioabdpploeaaGreatDoor

/-
  CONTRACTS of the document's answer for sha: padded, Sum.
-/
import Derived.Test.YtmkecanibedahaaDoorRows
import Derived.Test.YtmkecanibedahaaDoorWd
import Derived.Test.YtmkecanibedahaaDoorBytes
import Derived.Test.YtmkecanibedahaaDoorShaC
import Derived.Test.YtmkecanibedahaaDoorShaE
import Derived.Test.YtmkecanibedahaaDoorShaJ
import Derived.StillTailTactics
import Derived.Deep.RegionHeld3
set_option linter.unusedVariables false
set_option linter.unusedSimpArgs false
namespace Go.Proofs.YtmkecanibedahaaDoor
open Go.RowKit Go.Lib
theorem beBytes_take (z : Int) : ∀ (n m : Nat), m < n → (beBytes z n).take (m + 1) = (beBytes z n).take m ++ [(z / 2 ^ (8 * (n - 1 - m)) % 256).toNat.toUInt8]
  | 0, m, h => by omega
  | n + 1, 0, h => by simp [beBytes]
  | n + 1, m + 1, h => by
    rw [beBytes, List.take_succ_cons, List.take_succ_cons, beBytes_take z n m (by omega), List.cons_append]
    rw [show n + 1 - 1 - (m + 1) = n - 1 - m from by omega]
set_option maxRecDepth 100000 in
set_option maxHeartbeats 1000000 in
theorem padded_any (s : ByteArray) (w : World) (hn : s.size ≤ 35184372088832) :
    Calls Tryd.prog 24 #[.string s] w fun e w' => ∃ v, e = .returned v ∧ OwnB w' w.heap.size v (s.data.toList ++ padB s.size) ∧ Below w.heap.size w w' := by
  obtain ⟨k, Hk⟩ : ∃ k, Hid (k = (119 - s.size % 64) % 64) := ⟨_, rfl⟩
  have hk0 : k < 64 := by have := Hk.out; omega
  have HP : Hid (padB s.size = 128 :: (List.replicate k 0 ++ beBytes (8 * (s.size : Int)) 8)) := by unfold padB; rw [Hk.out]; rfl
  have hsl : s.data.toList.length = s.size := by simp
  go_enter Tryd.func24, Tryd.ntmps24
  go_wp2_with (first | (refine wpList_bytesOf w rfl (.tmp 6) rfl s rfl (by simp only [maxLen]; omega) ?_; intro v0 w0 hO0 hb0 hv0; have H0 := hide (And.intro hO0 (And.intro hb0 hv0)); clear hO0 hb0 hv0) | (at_builtin; refine wpList_app1 w0 rfl (.tmp 8) (.tmp 9) rfl (unhide H0).1 rfl rfl (by omega) (by omega) (by omega) (unhide H0).2.1.size ?_; intro v1 w1 hO1 hg1 hat1; have H1 := hide (And.intro hO1 (And.intro hg1 hat1)); clear hO1 hg1 hat1))
  have hlz : ∀ j : Nat, (s.data.toList ++ (128 : UInt8) :: List.replicate j 0).length = s.size + 1 + j := fun j => by simp; omega
  have h1 : OwnB w1 w.heap.size v1 (s.data.toList ++ (128 : UInt8) :: List.replicate 0 0) ∧ Below w.heap.size w w1 :=
    ⟨(unhide H1).1, ((unhide H0).2.1.alloc (unhide H0).2.1.size _).grown (unhide H1).2.1 (by simp; have := (unhide H0).2.1.size; omega) (fun k hk => by rw [(unhide H0).2.2] at hk; cases hk; exact Nat.le_refl _)⟩
  have H1' := hide h1; clear h1 H1 H0
  have HLZ := Lib.hid hlz; clear hlz
  go_loopw [3] (fun b wr => ∃ (j g cap : Nat), j ≤ k ∧ b = .slice (some ⟨g, 0, none⟩) (s.size + 1 + j) cap ∧ OwnB wr w.heap.size b (s.data.toList ++ (128 : UInt8) :: List.replicate j 0) ∧ Below w.heap.size w wr) (fun b _ => s.size + 70 - slen b)
  case atStart =>
    obtain ⟨ho, hb⟩ := unhide H1'
    rcases ho.form with ⟨_, h⟩ | ⟨g', cap', rfl, _, _, _⟩
    · simp at h
    · rw [HLZ.out 0] at ho ⊢
      exact ⟨0, g', cap', by omega, rfl, ho, hb⟩
  case round =>
    obtain ⟨j, g, cap, hj, rfl, hO, hb⟩ := hrel
    have Hx := hide (And.intro hO hb); clear hO hb H1'
    rcases Nat.lt_or_ge j k with hlt | hge
    · have htest2 : (((s.size : Int) + 1 + (j : Int)) % 64 != 56) = true := by
        have := Hk.out
        simp
        omega
      go_wp2_with (first | (at_builtin; refine wpList_app1 wr rfl (.tmp 15) (.tmp 16) rfl (unhide Hx).1 rfl rfl (by omega) (by omega) (by rw [HLZ.out]; omega) (unhide Hx).2.size ?_; intro v' w' hO' hg hat; have HO' := hide (And.intro hO' (And.intro hg hat)); clear hO' hg hat))
      go_roundw
      case rel =>
        obtain ⟨hO', hg, hat⟩ := unhide HO'
        obtain ⟨hO, hb⟩ := unhide Hx
        have e : s.data.toList ++ (128 : UInt8) :: List.replicate j 0 ++ [(0 : Int).toNat.toUInt8] = s.data.toList ++ 128 :: List.replicate (j + 1) 0 := by rw [List.append_assoc, List.cons_append, List.replicate_succ']; rfl
        rw [e] at hO'
        rcases hO'.form with ⟨_, h⟩ | ⟨g', cap', rfl, _, _, _⟩
        · simp at h
        · rw [HLZ.out (j + 1)] at hO' ⊢
          exact ⟨j + 1, g', cap', by omega, rfl, hO', (hb.alloc hb.size _).grown hg (by simp; have := hb.size; omega) (fun k hk => (hO.lt k hk).1)⟩
      case measure =>
        have hs := (unhide HO').1.slen
        simp only [List.length_append, List.length_cons, List.length_replicate, List.length_nil] at hs
        show s.size + 70 - slen v' < s.size + 70 - (s.size + 1 + j)
        omega
    · have hjk : k ≤ j := hge
      have htest2 : (((s.size : Int) + 1 + (j : Int)) % 64 != 56) = false := by
        have := Hk.out
        simp
        omega
      go_wp2_with fail
      have hjk' : Hid (j = k) := Lib.hid (by omega)
      go_loopw [3, 5] (fun b i wz => ∃ m : Nat, m ≤ 8 ∧ i = .int .i64 m ∧ OwnB wz w.heap.size b (s.data.toList ++ (128 : UInt8) :: List.replicate k 0 ++ (beBytes (8 * (s.size : Int)) 8).take m) ∧ Below w.heap.size w wz) (fun _ i _ => 8 - (intOf i).toNat)
      case atStart =>
        refine ⟨0, by omega, rfl, ?_, (unhide Hx).2⟩
        rw [List.take_zero, List.append_nil, ← hjk'.out]
        exact (unhide Hx).1
      case round =>
        clear Hx
        obtain ⟨m, hm, rfl, hO, hb⟩ := hrel
        have Hx := hide (And.intro hO hb); clear hO hb
        rcases Nat.lt_or_ge m 8 with hlt8 | hge8
        · have h56 : (0 : Int) ≤ 56 - 8 * (m : Int) := by omega
          have hlm : (s.data.toList ++ (128 : UInt8) :: List.replicate k 0 ++ (beBytes (8 * (s.size : Int)) 8).take m).length + 1 ≤ 140737488355328 := by simp; omega
          go_wp2_with (first | (at_builtin; refine wpList_app1 wr rfl (.tmp 26) (.tmp 34) rfl (unhide Hx).1 rfl rfl (Int.emod_nonneg _ (by decide)) (Int.emod_lt_of_pos _ (by decide)) hlm (unhide Hx).2.size ?_; intro v' w' hO' hg hat; have HO' := hide (And.intro hO' (And.intro hg hat)); clear hO' hg hat))
          go_roundw
          case rel =>
            obtain ⟨hO', hg, hat⟩ := unhide HO'
            obtain ⟨hO, hb⟩ := unhide Hx
            rw [Int.mul_comm (s.size : Int) 8] at hO'
            refine ⟨m + 1, by omega, by go_num, ?_, (hb.alloc hb.size _).grown hg (by simp; have := hb.size; omega) (fun k hk => (hO.lt k hk).1)⟩
            rw [beBytes_take _ _ _ hlt8]
            rw [show ((2 : Int) ^ (8 * (8 - 1 - m))) = 2 ^ (56 - 8 * m) from by congr 1; omega, ← List.append_assoc]
            exact hO'
          case measure => simp [intOf]; omega
        · go_wp2_with fail
          go_ret
          have hm8 : m = 8 := by omega
          refine ⟨_, rfl, ?_, (unhide Hx).2⟩
          have h := (unhide Hx).1
          rw [List.take_of_length_le (by rw [beBytes_length]; omega)] at h
          rw [HP.out]
          simpa using h
theorem step_app_cells {ops : Array Oper} {o : Oper} {a : Act} {K : Act → World → Prop} {Q : Exit → Act → World → Prop} {E : Prop} {w : World} (hgd : o.guard = none) (s x : Operand)
    (ho : o.op = .call { callee := .builtin .append, args := #[s, x], argTypes := #[48, 48] })
    {base : Nat} {v : Value} {bs : List UInt8} (hown : OwnB w base v bs) (hs : a.eval s = v) (ad : Addr) (m c : Nat) (nb : List UInt8) (hx : a.eval x = .slice (some ad) m c) (hm : nb.length = m)
    (hnews : ∀ j u, (byteCells nb)[j]? = some u → w.cell? (ad.add j) = some u) (h47 : bs.length + m ≤ 140737488355328) (hbase : base ≤ w.heap.size)
    (h : ∀ v' w', OwnB w' base v' (bs ++ nb) → w.grownBy w' v.ownBlock → (v'.ownBlock = v.ownBlock ∨ v'.ownBlock = some w.heap.size) → K (a.put o.dst v') w') :
    if Region.wanted o (yielded ops a.tmps) = true then Oper.wp Tryd.prog o a w K Q else E := by
  have hw : Region.wanted o (yielded ops a.tmps) = true := by simp [Region.wanted, hgd]
  rw [if_pos hw]
  obtain ⟨v', w', hr, h2, h3, h4⟩ := run_app_cells w o.type base v bs hown ad m c nb hm hnews h47 hbase
  unfold Oper.wp execOp
  simp only [ho, resolve, invoke, builtin, Sem.run_bind, Sem.run_pure, Result.andThen_ok, List.map_toArray, List.map_cons, List.map_nil, hs, hx, hr]
  exact h v' w' h2 h3 h4
theorem u8_cell (y : Int) : Value.int .u8 (IntKind.u8.wrap y) = .int .u8 (((y % 256).toNat.toUInt8).toNat : Int) := by
  have h : (((y % 256).toNat.toUInt8).toNat : Int) = y % 256 := by
    have e : ((y % 256).toNat.toUInt8).toNat = (y % 256).toNat % 256 := UInt8.toNat_ofNat' ..
    rw [e]; omega
  rw [h]
  simp [IntKind.wrap, IntKind.bits, IntKind.signed]
theorem news4 (w : World) (x : Int) (x0 : 0 ≤ x) (x1 : x < 4294967296) : ∀ j u, (byteCells (beBytes x 4))[j]? = some u →
    ((w.alloc (.cells #[.int .u8 (IntKind.u8.wrap (x / 16777216)), .int .u8 (IntKind.u8.wrap (x / 65536)), .int .u8 (IntKind.u8.wrap (x / 256)), .int .u8 (IntKind.u8.wrap x)] 5)).drew).cell? ((⟨w.heap.size, 0, none⟩ : Addr).add j) = some u := by
  intro j u h
  have hadd : (⟨w.heap.size, 0, none⟩ : Addr).add j = ⟨w.heap.size, j, none⟩ := by unfold Addr.add; split <;> simp_all
  rw [hadd, ((Blk.new w 5 _).drew).cell j, ← h]
  simp only [u8_cell, beBytes, byteCells, List.map_cons, List.map_nil]
  simp
def FirstOk (w : World) : Prop := ∀ i, i < 8 → w.cell? ⟨0, i, none⟩ = some (.int .u32 (shaInit.getD i 0))
theorem FirstOk.lt {w : World} (h : FirstOk w) : 0 < w.heap.size := World.block_lt_of_cell? w _ (h 0 (by omega))
theorem FirstOk.below {B : Nat} {w w' : World} (h : FirstOk w) (hb : Below B w w') (hB : 0 < B) : FirstOk w' :=
  fun i hi => (hb.cell (p := ⟨0, i, none⟩) hB).trans (h i hi)
set_option maxRecDepth 100000 in
set_option maxHeartbeats 1000000 in
theorem rsum_any (s : ByteArray) (w : World) (hn : s.size ≤ 35184372088832) (htab : TabOkR w) (hf : FirstOk w) :
    Calls Tryd.prog 11 #[.string s] w fun e w' => e = .returned (.string (shaB s)) ∧ Below w.heap.size w w' := by
  have hp := padded_any s w hn
  have HT := hide (And.intro htab hf)
  clear htab hf
  go_enter Tryd.func11, Tryd.ntmps11
  go_wp2_with fail
  refine hp.mono ?_
  rintro e w1 ⟨v, rfl, hO, hb⟩
  have hf := (unhide HT).2.below hb (unhide HT).2.lt
  have d0 := hf 0 (by omega)
  have d1 := hf 1 (by omega)
  have d2 := hf 2 (by omega)
  have d3 := hf 3 (by omega)
  have d4 := hf 4 (by omega)
  have d5 := hf 5 (by omega)
  have d6 := hf 6 (by omega)
  have d7 := hf 7 (by omega)
  clear hf
  simp [shaInit] at d0 d1 d2 d3 d4 d5 d6 d7
  obtain ⟨M, HM⟩ : ∃ M, Hid (s.data.toList ++ padB s.size = M) := ⟨_, rfl⟩
  rw [HM.out] at hO
  obtain ⟨K, hK, hKm⟩ : ∃ K, M.length = 64 * K ∧ K ≤ 1099511627776 := ⟨M.length / 64, by rw [← HM.out, List.length_append, padB_length]; simp; omega, by rw [← HM.out, List.length_append, padB_length]; simp; omega⟩
  have hK0 : 0 < K := by
    have : M.length ≠ 0 := by rw [← HM.out, List.length_append, padB_length]; omega
    omega
  have hby : ∀ (g cap : Nat), v = .slice (some ⟨g, 0, none⟩) M.length cap → BytesAt w1 g M ∧ g < w1.heap.size := by
    rintro g cap rfl
    exact ⟨fun j hj => hO.cells rfl j hj, (hO.lt g rfl).2⟩
  rcases hO.form with ⟨_, h⟩ | ⟨g, cap, hv, hg0, hg1, _⟩
  · rw [h] at hK; simp at hK; omega
  have hby := (hby g cap hv).1
  have Hv := Lib.hid hv
  rw [hK] at hv
  rw [hv]
  clear hv
  have H1 := hide (And.intro hO (And.intro hb hby)); clear hO hb hp hby
  go_wp2_with fail
  have hB0 : Blk (w1.alloc (.cells #[.int .u32 1779033703, .int .u32 3144134277, .int .u32 1013904242, .int .u32 2773480762, .int .u32 1359893119, .int .u32 2600822924, .int .u32 528734635, .int .u32 1541459225] 51)) w1.heap.size 51 (st8 (stN shaInit 0 M)).toArray := Blk.new _ _ _
  have HB0 := hide hB0; clear hB0
  go_loopw [5] (fun i wr => ∃ k : Nat, k ≤ K ∧ i = .int .i64 (64 * (k : Int)) ∧ Blk wr w1.heap.size 51 (st8 (stN shaInit k M)).toArray ∧ Below w1.heap.size w1 wr) (fun i _ => 64 * K - (intOf i).toNat)
  case atStart => exact ⟨0, by omega, rfl, unhide HB0, (Below.refl _ _).alloc (Nat.le_refl _) _⟩
  case round =>
    clear HB0
    obtain ⟨k, hk, rfl, hB, hb⟩ := hrel
    have hH := hide (And.intro hB hb); clear hB hb
    rcases Nat.lt_or_ge k K with hlt | hge
    · obtain ⟨C, HC⟩ : ∃ C, Hid ((st8 (stN shaInit k M)).toArray = C) := ⟨_, rfl⟩
      have hB := (unhide hH).1
      rw [HC.out] at hB
      have hC8 : C.size = 8 := by rw [← HC.out]; simp [st8, stN_length (v := shaInit) rfl]
      have ci8 : (Tryd.prog.info? 51).map (·.size) = some C.size := by rw [hC8]; kernel_rfl
      have HB := hide (And.intro hB (And.intro hC8 ci8)); clear hB hC8 ci8
      go_wp2_with (first | (refine wpList_load_row rfl 51 (.tmp 4) rfl w1.heap.size rfl 51 C (0, 0) _ (unhide HB).1 Tryd.underlying51 rfl (unhide HB).2.2 ?_))
      have hbk := block_any (stN shaInit k M) g M cap (64 * k : Int) wr (stN_length rfl _ _) (stN_U32 shaInit_U32 _ _) (((unhide HT).1.below (unhide H1).2.1 (unhide HT).1.lt).below (unhide hH).2 (Nat.lt_of_lt_of_le (unhide HT).1.lt (unhide H1).2.1.size)) (by simp only [maxLen]; omega) (by omega) (by omega) (Nat.lt_of_lt_of_le hg1 (unhide hH).2.size) ((unhide H1).2.2.below (unhide hH).2 hg1)
      rw [HC.out, hK] at hbk
      refine hbk.mono ?_
      clear hbk
      rintro e w2 ⟨rfl, hb2⟩
      have hCs : comp (stN shaInit k M) (List.take 64 (List.drop (64 * (k : Int)).toNat M)) = stN shaInit (k + 1) M := by
        rw [stN_add, show ((64 : Int) * k).toNat = 64 * k from by omega]; rfl
      rw [hCs]
      obtain ⟨D, HD⟩ : ∃ D, Hid ((st8 (stN shaInit (k + 1) M)).toArray = D) := ⟨_, rfl⟩
      have hD8 : D.size = 8 := by rw [← HD.out]; simp [st8, stN_length (v := shaInit) rfl]
      have oneD : D.all (·.oneCell') = true := by rw [← HD.out]; exact st8_one _
      have ci8 : (Tryd.prog.info? 51).map (·.size) = some C.size := (unhide HB).2.2
      have hCD : C.size = D.size := by rw [hD8]; exact (unhide HB).2.1
      have hB2 := (unhide HB).1.below hb2 (unhide HB).1.lt
      rw [HD.out]
      have H2 := hide (And.intro hB2 (And.intro ci8 (And.intro hCD (And.intro oneD hb2)))); clear hB2 ci8 hCD oneD hb2 hD8
      go_wp2_with (first | (refine wpList_store_row rfl 51 (.tmp 4) (.tmp 20) rfl w1.heap.size D rfl rfl 51 C (unhide H2).1 ((unhide H2).2.1.trans (by rw [(unhide H2).2.2.1])) (unhide H2).2.2.1 (unhide H2).2.2.2.1 ?_))
      go_roundw
      case rel =>
        refine ⟨k + 1, by omega, by go_num, ?_, ((unhide hH).2.trans ((unhide H2).2.2.2.2.mono (unhide hH).2.size)).setRow (Nat.le_refl _) _⟩
        have h := setRow_heap w2 w1.heap.size C D _ _ (unhide H2).1
        rw [HD.out]
        exact h
      case measure => simp [intOf]; omega
    · have hkK : k = K := by omega
      have hB := (unhide hH).1
      have hb := (unhide hH).2
      obtain ⟨U, HU⟩ : ∃ U, Hid (stN shaInit K M = U) := ⟨_, rfl⟩
      have hU8 : U.length = 8 := by rw [← HU.out]; exact stN_length rfl _ _
      have hUU : U32 U := by rw [← HU.out]; exact stN_U32 shaInit_U32 _ _
      have hBU : Blk wr w1.heap.size 51 (st8 U).toArray := by rw [← HU.out, ← hkK]; exact hB
      have hbw : Below w.heap.size w wr := (unhide H1).2.1.trans (hb.mono (unhide H1).2.1.size)
      have hw1 : w.heap.size ≤ w1.heap.size := (unhide H1).2.1.size
      have hH2 := hide (And.intro hBU hbw)
      have HkK := Lib.hid hkK
      clear hB hb hH hBU hbw hkK H1
      go_wp2_with fail
      generalize decide (k < K) = bz
      go_loopw [6, 7] (fun b i wz => ∃ m : Nat, m ≤ 8 ∧ i = .int .i64 m ∧ Blk wz w1.heap.size 51 (st8 U).toArray ∧ OwnB wz (w1.heap.size + 1) b (out8 (U.take m)) ∧ Below w.heap.size w wz) (fun _ i _ => 8 - (intOf i).toNat)
      case atStart => exact ⟨0, by omega, rfl, (unhide hH2).1, OwnB.nil _ _, (unhide hH2).2⟩
      case round =>
        clear hH2
        obtain ⟨m, hm, rfl, hB, hO, hb⟩ := hrel
        rcases Nat.lt_or_ge m 8 with hlt8 | hge8
        · have c1 := (hB.cell m).trans (st8_at U m (by omega))
          obtain ⟨x0, x1⟩ := hUU.at_ m
          generalize hx : U.getD m 0 = x at c1 x0 x1
          have Hx := hide (And.intro hx (And.intro hB (And.intro hO hb))); clear hx hB hO hb
          go_wp2_with fail
          have hol : (out8 (U.take m)).length + 4 ≤ 140737488355328 := by rw [out8_length]; simp; omega
          have hbs : w1.heap.size + 1 ≤ wr.heap.size := (unhide Hx).2.1.lt
          have c1' : ∀ o : Obj, (wr.alloc o).drew.cell? ⟨w1.heap.size, m, none⟩ = some (.int .u32 x) := fun o => (World.cell?_alloc_lt wr o ⟨w1.heap.size, m, none⟩ (by show w1.heap.size < wr.heap.size; omega)).trans c1
          have hne : some w1.heap.size ≠ u6.ownBlock := fun e => by
            have := ((unhide Hx).2.2.1.lt w1.heap.size e.symm).1
            omega
          have Hc1' := hide c1'; clear c1'
          go_region_held3 (fun W => W.cell? ⟨w1.heap.size, m, none⟩ = some (.int .u32 x)) (first | assumption | exact unhide Hc1' _) (first | (refine step_app_cells rfl (.tmp 25) (.tmp 45) rfl ((unhide Hx).2.2.1.drew.alloc _) rfl ⟨wr.heap.size, 0, none⟩ 4 4 (beBytes x 4) rfl rfl (news4 wr x x0 x1) hol (by simp; omega) ?_; intro v' w' hO' hg hat; have c2 : w'.cell? ⟨w1.heap.size, m, none⟩ = some (.int .u32 x) := by { have hb2 := (((unhide Hx).2.1.alloc _).drew.grown hg hne).cell m; rw [hb2, ← (unhide Hx).2.1.cell m]; exact c1 }))
          have HO' := hide (And.intro hO' hg); clear hO' hg hat c2
          go_wp2_with fail
          go_roundw
          case rel =>
            obtain ⟨hO', hg⟩ := unhide HO'
            obtain ⟨hx, hB, hO, hb⟩ := unhide Hx
            refine ⟨m + 1, by omega, by go_num, ((hB.alloc _).drew).grown hg hne, ?_, (below_drewN (hb.alloc hb.size _) 1).grown hg (by show w.heap.size ≤ (wr.alloc _).heap.size; simp; omega) (fun k hk => by have := (hO.lt k hk).1; omega)⟩
            have e : out8 (U.take (m + 1)) = out8 (U.take m) ++ beBytes x 4 := by
              have hmU : m < U.length := by omega
              have hxk : U[m] = x := by rw [← hx]; simp [List.getD, hmU]
              unfold out8
              rw [List.take_succ_eq_append_getElem hmU, List.flatMap_append, hxk]
              simp
            rw [e]; exact hO'
          case measure => simp [intOf]; omega
        · have hcv := conv_own hO
          have Hx := hide hb; clear hb hO
          go_wp2_with fail
          go_ret
          refine ⟨ret_str ?_, unhide Hx⟩
          rw [List.take_of_length_le (by omega), ← HU.out]
          unfold shaB shaL
          rw [show s.data.toList.length = s.size from by simp, HM.out, hK, show 64 * K / 64 = K from by omega]
end Go.Proofs.YtmkecanibedahaaDoor

/-
  Several texts in one: CONTRACTS of the document's answer for sha: padded, Sum. | CONTRACTS of package mac, and of the document's answer for it: codes, and a key's name. | CONTRACTS of package mac and of the document's answer for it: a key's name; the same codes. | CONTRACT of the document's Name. | CONTRACT of note.ID at a key whose name does not go. | CONTRACTS towards NoteID: both sides answer a key's four bytes, or refuse its name.
-/
import Derived.Test.YtfhaoamlagnpjaaDoorRows
import Derived.StillTailTactics
import Derived.Deep.RegionHeld3
import Derived.Test.YtfhaoamlagnpjaaDoorGNoteAdd1
import Derived.Test.YtfhaoamlagnpjaaDoorGNoteAdd2
import Derived.Test.YtfhaoamlagnpjaaDoorGNoteAdd5
set_option linter.unusedVariables false
set_option linter.unusedSimpArgs false
namespace Go.Proofs.YtfhaoamlagnpjaaDoor
open Go.RowKit Go.Lib
theorem beBytes_take (z : Int) : ∀ (n m : Nat), m < n → (beBytes z n).take (m + 1) = (beBytes z n).take m ++ [(z / 2 ^ (8 * (n - 1 - m)) % 256).toNat.toUInt8]
  | 0, m, h => by omega
  | n + 1, 0, h => by simp [beBytes]
  | n + 1, m + 1, h => by
    rw [beBytes, List.take_succ_cons, List.take_succ_cons, beBytes_take z n m (by omega), List.cons_append]
    rw [show n + 1 - 1 - (m + 1) = n - 1 - m from by omega]
set_option maxRecDepth 100000 in
set_option maxHeartbeats 1000000 in
theorem padded_any (s : ByteArray) (w : World) (hn : s.size ≤ 35184372088832) :
    Calls Tryd.prog 102 #[.string s] w fun e w' => ∃ v, e = .returned v ∧ OwnB w' w.heap.size v (s.data.toList ++ padB s.size) ∧ Below w.heap.size w w' := by
  obtain ⟨k, Hk⟩ : ∃ k, Hid (k = (119 - s.size % 64) % 64) := ⟨_, rfl⟩
  have hk0 : k < 64 := by have := Hk.out; omega
  have HP : Hid (padB s.size = 128 :: (List.replicate k 0 ++ beBytes (8 * (s.size : Int)) 8)) := by unfold padB; rw [Hk.out]; rfl
  have hsl : s.data.toList.length = s.size := by simp
  go_enter Tryd.func102, Tryd.ntmps102
  go_wp2_with (first | (refine wpList_bytesOf w rfl (.tmp 6) rfl s rfl (by simp only [maxLen]; omega) ?_; intro v0 w0 hO0 hb0 hv0; have H0 := hide (And.intro hO0 (And.intro hb0 hv0)); clear hO0 hb0 hv0) | (at_builtin; refine wpList_app1 w0 rfl (.tmp 8) (.tmp 9) rfl (unhide H0).1 rfl rfl (by omega) (by omega) (by omega) (unhide H0).2.1.size ?_; intro v1 w1 hO1 hg1 hat1; have H1 := hide (And.intro hO1 (And.intro hg1 hat1)); clear hO1 hg1 hat1))
  have hlz : ∀ j : Nat, (s.data.toList ++ (128 : UInt8) :: List.replicate j 0).length = s.size + 1 + j := fun j => by simp; omega
  have h1 : OwnB w1 w.heap.size v1 (s.data.toList ++ (128 : UInt8) :: List.replicate 0 0) ∧ Below w.heap.size w w1 :=
    ⟨(unhide H1).1, ((unhide H0).2.1.alloc (unhide H0).2.1.size _).grown (unhide H1).2.1 (by simp; have := (unhide H0).2.1.size; omega) (fun k hk => by rw [(unhide H0).2.2] at hk; cases hk; exact Nat.le_refl _)⟩
  have H1' := hide h1; clear h1 H1 H0
  have HLZ := Lib.hid hlz; clear hlz
  go_loopw [3] (fun b wr => ∃ (j g cap : Nat), j ≤ k ∧ b = .slice (some ⟨g, 0, none⟩) (s.size + 1 + j) cap ∧ OwnB wr w.heap.size b (s.data.toList ++ (128 : UInt8) :: List.replicate j 0) ∧ Below w.heap.size w wr) (fun b _ => s.size + 70 - slen b)
  case atStart =>
    obtain ⟨ho, hb⟩ := unhide H1'
    rcases ho.form with ⟨_, h⟩ | ⟨g', cap', rfl, _, _, _⟩
    · simp at h
    · rw [HLZ.out 0] at ho ⊢
      exact ⟨0, g', cap', by omega, rfl, ho, hb⟩
  case round =>
    obtain ⟨j, g, cap, hj, rfl, hO, hb⟩ := hrel
    have Hx := hide (And.intro hO hb); clear hO hb H1'
    rcases Nat.lt_or_ge j k with hlt | hge
    · have htest2 : (((s.size : Int) + 1 + (j : Int)) % 64 != 56) = true := by
        have := Hk.out
        simp
        omega
      go_wp2_with (first | (at_builtin; refine wpList_app1 wr rfl (.tmp 15) (.tmp 16) rfl (unhide Hx).1 rfl rfl (by omega) (by omega) (by rw [HLZ.out]; omega) (unhide Hx).2.size ?_; intro v' w' hO' hg hat; have HO' := hide (And.intro hO' (And.intro hg hat)); clear hO' hg hat))
      go_roundw
      case rel =>
        obtain ⟨hO', hg, hat⟩ := unhide HO'
        obtain ⟨hO, hb⟩ := unhide Hx
        have e : s.data.toList ++ (128 : UInt8) :: List.replicate j 0 ++ [(0 : Int).toNat.toUInt8] = s.data.toList ++ 128 :: List.replicate (j + 1) 0 := by rw [List.append_assoc, List.cons_append, List.replicate_succ']; rfl
        rw [e] at hO'
        rcases hO'.form with ⟨_, h⟩ | ⟨g', cap', rfl, _, _, _⟩
        · simp at h
        · rw [HLZ.out (j + 1)] at hO' ⊢
          exact ⟨j + 1, g', cap', by omega, rfl, hO', (hb.alloc hb.size _).grown hg (by simp; have := hb.size; omega) (fun k hk => (hO.lt k hk).1)⟩
      case measure =>
        have hs := (unhide HO').1.slen
        simp only [List.length_append, List.length_cons, List.length_replicate, List.length_nil] at hs
        show s.size + 70 - slen v' < s.size + 70 - (s.size + 1 + j)
        omega
    · have hjk : k ≤ j := hge
      have htest2 : (((s.size : Int) + 1 + (j : Int)) % 64 != 56) = false := by
        have := Hk.out
        simp
        omega
      go_wp2_with fail
      have hjk' : Hid (j = k) := Lib.hid (by omega)
      go_loopw [3, 5] (fun b i wz => ∃ m : Nat, m ≤ 8 ∧ i = .int .i64 m ∧ OwnB wz w.heap.size b (s.data.toList ++ (128 : UInt8) :: List.replicate k 0 ++ (beBytes (8 * (s.size : Int)) 8).take m) ∧ Below w.heap.size w wz) (fun _ i _ => 8 - (intOf i).toNat)
      case atStart =>
        refine ⟨0, by omega, rfl, ?_, (unhide Hx).2⟩
        rw [List.take_zero, List.append_nil, ← hjk'.out]
        exact (unhide Hx).1
      case round =>
        clear Hx
        obtain ⟨m, hm, rfl, hO, hb⟩ := hrel
        have Hx := hide (And.intro hO hb); clear hO hb
        rcases Nat.lt_or_ge m 8 with hlt8 | hge8
        · have h56 : (0 : Int) ≤ 56 - 8 * (m : Int) := by omega
          have hlm : (s.data.toList ++ (128 : UInt8) :: List.replicate k 0 ++ (beBytes (8 * (s.size : Int)) 8).take m).length + 1 ≤ 140737488355328 := by simp; omega
          go_wp2_with (first | (at_builtin; refine wpList_app1 wr rfl (.tmp 26) (.tmp 34) rfl (unhide Hx).1 rfl rfl (Int.emod_nonneg _ (by decide)) (Int.emod_lt_of_pos _ (by decide)) hlm (unhide Hx).2.size ?_; intro v' w' hO' hg hat; have HO' := hide (And.intro hO' (And.intro hg hat)); clear hO' hg hat))
          go_roundw
          case rel =>
            obtain ⟨hO', hg, hat⟩ := unhide HO'
            obtain ⟨hO, hb⟩ := unhide Hx
            rw [Int.mul_comm (s.size : Int) 8] at hO'
            refine ⟨m + 1, by omega, by go_num, ?_, (hb.alloc hb.size _).grown hg (by simp; have := hb.size; omega) (fun k hk => (hO.lt k hk).1)⟩
            rw [beBytes_take _ _ _ hlt8]
            rw [show ((2 : Int) ^ (8 * (8 - 1 - m))) = 2 ^ (56 - 8 * m) from by congr 1; omega, ← List.append_assoc]
            exact hO'
          case measure => simp [intOf]; omega
        · go_wp2_with fail
          go_ret
          have hm8 : m = 8 := by omega
          refine ⟨_, rfl, ?_, (unhide Hx).2⟩
          have h := (unhide Hx).1
          rw [List.take_of_length_le (by rw [beBytes_length]; omega)] at h
          rw [HP.out]
          simpa using h
theorem step_app_cells {ops : Array Oper} {o : Oper} {a : Act} {K : Act → World → Prop} {Q : Exit → Act → World → Prop} {E : Prop} {w : World} (hgd : o.guard = none) (s x : Operand)
    (ho : o.op = .call { callee := .builtin .append, args := #[s, x], argTypes := #[75, 75] })
    {base : Nat} {v : Value} {bs : List UInt8} (hown : OwnB w base v bs) (hs : a.eval s = v) (ad : Addr) (m c : Nat) (nb : List UInt8) (hx : a.eval x = .slice (some ad) m c) (hm : nb.length = m)
    (hnews : ∀ j u, (byteCells nb)[j]? = some u → w.cell? (ad.add j) = some u) (h47 : bs.length + m ≤ 140737488355328) (hbase : base ≤ w.heap.size)
    (h : ∀ v' w', OwnB w' base v' (bs ++ nb) → w.grownBy w' v.ownBlock → (v'.ownBlock = v.ownBlock ∨ v'.ownBlock = some w.heap.size) → K (a.put o.dst v') w') :
    if Region.wanted o (yielded ops a.tmps) = true then Oper.wp Tryd.prog o a w K Q else E := by
  have hw : Region.wanted o (yielded ops a.tmps) = true := by simp [Region.wanted, hgd]
  rw [if_pos hw]
  obtain ⟨v', w', hr, h2, h3, h4⟩ := run_app_cells w o.type base v bs hown ad m c nb hm hnews h47 hbase
  unfold Oper.wp execOp
  simp only [ho, resolve, invoke, builtin, Sem.run_bind, Sem.run_pure, Result.andThen_ok, List.map_toArray, List.map_cons, List.map_nil, hs, hx, hr]
  exact h v' w' h2 h3 h4
theorem u8_cell (y : Int) : Value.int .u8 (IntKind.u8.wrap y) = .int .u8 (((y % 256).toNat.toUInt8).toNat : Int) := by
  have h : (((y % 256).toNat.toUInt8).toNat : Int) = y % 256 := by
    have e : ((y % 256).toNat.toUInt8).toNat = (y % 256).toNat % 256 := UInt8.toNat_ofNat' ..
    rw [e]; omega
  rw [h]
  simp [IntKind.wrap, IntKind.bits, IntKind.signed]
theorem news4 (w : World) (x : Int) (x0 : 0 ≤ x) (x1 : x < 4294967296) : ∀ j u, (byteCells (beBytes x 4))[j]? = some u →
    ((w.alloc (.cells #[.int .u8 (IntKind.u8.wrap (x / 16777216)), .int .u8 (IntKind.u8.wrap (x / 65536)), .int .u8 (IntKind.u8.wrap (x / 256)), .int .u8 (IntKind.u8.wrap x)] 5)).drew).cell? ((⟨w.heap.size, 0, none⟩ : Addr).add j) = some u := by
  intro j u h
  have hadd : (⟨w.heap.size, 0, none⟩ : Addr).add j = ⟨w.heap.size, j, none⟩ := by unfold Addr.add; split <;> simp_all
  rw [hadd, ((Blk.new w 5 _).drew).cell j, ← h]
  simp only [u8_cell, beBytes, byteCells, List.map_cons, List.map_nil]
  simp
def FirstOk (w : World) : Prop := ∀ i, i < 8 → w.cell? ⟨0, i, none⟩ = some (.int .u32 (shaInit.getD i 0))
theorem FirstOk.lt {w : World} (h : FirstOk w) : 0 < w.heap.size := World.block_lt_of_cell? w _ (h 0 (by omega))
theorem FirstOk.below {B : Nat} {w w' : World} (h : FirstOk w) (hb : Below B w w') (hB : 0 < B) : FirstOk w' :=
  fun i hi => (hb.cell (p := ⟨0, i, none⟩) hB).trans (h i hi)
set_option maxRecDepth 100000 in
set_option maxHeartbeats 1000000 in
theorem rsum_any (s : ByteArray) (w : World) (hn : s.size ≤ 35184372088832) (htab : TabOkR w) (hf : FirstOk w) :
    Calls Tryd.prog 76 #[.string s] w fun e w' => e = .returned (.string (shaB s)) ∧ Below w.heap.size w w' := by
  have hp := padded_any s w hn
  have HT := hide (And.intro htab hf)
  clear htab hf
  go_enter Tryd.func76, Tryd.ntmps76
  go_wp2_with fail
  refine hp.mono ?_
  rintro e w1 ⟨v, rfl, hO, hb⟩
  have hf := (unhide HT).2.below hb (unhide HT).2.lt
  have d0 := hf 0 (by omega)
  have d1 := hf 1 (by omega)
  have d2 := hf 2 (by omega)
  have d3 := hf 3 (by omega)
  have d4 := hf 4 (by omega)
  have d5 := hf 5 (by omega)
  have d6 := hf 6 (by omega)
  have d7 := hf 7 (by omega)
  clear hf
  simp [shaInit] at d0 d1 d2 d3 d4 d5 d6 d7
  obtain ⟨M, HM⟩ : ∃ M, Hid (s.data.toList ++ padB s.size = M) := ⟨_, rfl⟩
  rw [HM.out] at hO
  obtain ⟨K, hK, hKm⟩ : ∃ K, M.length = 64 * K ∧ K ≤ 1099511627776 := ⟨M.length / 64, by rw [← HM.out, List.length_append, padB_length]; simp; omega, by rw [← HM.out, List.length_append, padB_length]; simp; omega⟩
  have hK0 : 0 < K := by
    have : M.length ≠ 0 := by rw [← HM.out, List.length_append, padB_length]; omega
    omega
  have hby : ∀ (g cap : Nat), v = .slice (some ⟨g, 0, none⟩) M.length cap → BytesAt w1 g M ∧ g < w1.heap.size := by
    rintro g cap rfl
    exact ⟨fun j hj => hO.cells rfl j hj, (hO.lt g rfl).2⟩
  rcases hO.form with ⟨_, h⟩ | ⟨g, cap, hv, hg0, hg1, _⟩
  · rw [h] at hK; simp at hK; omega
  have hby := (hby g cap hv).1
  have Hv := Lib.hid hv
  rw [hK] at hv
  rw [hv]
  clear hv
  have H1 := hide (And.intro hO (And.intro hb hby)); clear hO hb hp hby
  go_wp2_with fail
  have hB0 : Blk (w1.alloc (.cells #[.int .u32 1779033703, .int .u32 3144134277, .int .u32 1013904242, .int .u32 2773480762, .int .u32 1359893119, .int .u32 2600822924, .int .u32 528734635, .int .u32 1541459225] 143)) w1.heap.size 143 (st8 (stN shaInit 0 M)).toArray := Blk.new _ _ _
  have HB0 := hide hB0; clear hB0
  go_loopw [5] (fun i wr => ∃ k : Nat, k ≤ K ∧ i = .int .i64 (64 * (k : Int)) ∧ Blk wr w1.heap.size 143 (st8 (stN shaInit k M)).toArray ∧ Below w1.heap.size w1 wr) (fun i _ => 64 * K - (intOf i).toNat)
  case atStart => exact ⟨0, by omega, rfl, unhide HB0, (Below.refl _ _).alloc (Nat.le_refl _) _⟩
  case round =>
    clear HB0
    obtain ⟨k, hk, rfl, hB, hb⟩ := hrel
    have hH := hide (And.intro hB hb); clear hB hb
    rcases Nat.lt_or_ge k K with hlt | hge
    · obtain ⟨C, HC⟩ : ∃ C, Hid ((st8 (stN shaInit k M)).toArray = C) := ⟨_, rfl⟩
      have hB := (unhide hH).1
      rw [HC.out] at hB
      have hC8 : C.size = 8 := by rw [← HC.out]; simp [st8, stN_length (v := shaInit) rfl]
      have ci8 : (Tryd.prog.info? 143).map (·.size) = some C.size := by rw [hC8]; kernel_rfl
      have HB := hide (And.intro hB (And.intro hC8 ci8)); clear hB hC8 ci8
      go_wp2_with (first | (refine wpList_load_row rfl 143 (.tmp 4) rfl w1.heap.size rfl 143 C (0, 0) _ (unhide HB).1 Tryd.underlying143 rfl (unhide HB).2.2 ?_))
      have hbk := block_any (stN shaInit k M) g M cap (64 * k : Int) wr (stN_length rfl _ _) (stN_U32 shaInit_U32 _ _) (((unhide HT).1.below (unhide H1).2.1 (unhide HT).1.lt).below (unhide hH).2 (Nat.lt_of_lt_of_le (unhide HT).1.lt (unhide H1).2.1.size)) (by simp only [maxLen]; omega) (by omega) (by omega) (Nat.lt_of_lt_of_le hg1 (unhide hH).2.size) ((unhide H1).2.2.below (unhide hH).2 hg1)
      rw [HC.out, hK] at hbk
      refine hbk.mono ?_
      clear hbk
      rintro e w2 ⟨rfl, hb2⟩
      have hCs : comp (stN shaInit k M) (List.take 64 (List.drop (64 * (k : Int)).toNat M)) = stN shaInit (k + 1) M := by
        rw [stN_add, show ((64 : Int) * k).toNat = 64 * k from by omega]; rfl
      rw [hCs]
      obtain ⟨D, HD⟩ : ∃ D, Hid ((st8 (stN shaInit (k + 1) M)).toArray = D) := ⟨_, rfl⟩
      have hD8 : D.size = 8 := by rw [← HD.out]; simp [st8, stN_length (v := shaInit) rfl]
      have oneD : D.all (·.oneCell') = true := by rw [← HD.out]; exact st8_one _
      have ci8 : (Tryd.prog.info? 143).map (·.size) = some C.size := (unhide HB).2.2
      have hCD : C.size = D.size := by rw [hD8]; exact (unhide HB).2.1
      have hB2 := (unhide HB).1.below hb2 (unhide HB).1.lt
      rw [HD.out]
      have H2 := hide (And.intro hB2 (And.intro ci8 (And.intro hCD (And.intro oneD hb2)))); clear hB2 ci8 hCD oneD hb2 hD8
      go_wp2_with (first | (refine wpList_store_row rfl 143 (.tmp 4) (.tmp 20) rfl w1.heap.size D rfl rfl 143 C (unhide H2).1 ((unhide H2).2.1.trans (by rw [(unhide H2).2.2.1])) (unhide H2).2.2.1 (unhide H2).2.2.2.1 ?_))
      go_roundw
      case rel =>
        refine ⟨k + 1, by omega, by go_num, ?_, ((unhide hH).2.trans ((unhide H2).2.2.2.2.mono (unhide hH).2.size)).setRow (Nat.le_refl _) _⟩
        have h := setRow_heap w2 w1.heap.size C D _ _ (unhide H2).1
        rw [HD.out]
        exact h
      case measure => simp [intOf]; omega
    · have hkK : k = K := by omega
      have hB := (unhide hH).1
      have hb := (unhide hH).2
      obtain ⟨U, HU⟩ : ∃ U, Hid (stN shaInit K M = U) := ⟨_, rfl⟩
      have hU8 : U.length = 8 := by rw [← HU.out]; exact stN_length rfl _ _
      have hUU : U32 U := by rw [← HU.out]; exact stN_U32 shaInit_U32 _ _
      have hBU : Blk wr w1.heap.size 143 (st8 U).toArray := by rw [← HU.out, ← hkK]; exact hB
      have hbw : Below w.heap.size w wr := (unhide H1).2.1.trans (hb.mono (unhide H1).2.1.size)
      have hw1 : w.heap.size ≤ w1.heap.size := (unhide H1).2.1.size
      have hH2 := hide (And.intro hBU hbw)
      have HkK := Lib.hid hkK
      clear hB hb hH hBU hbw hkK H1
      go_wp2_with fail
      generalize decide (k < K) = bz
      go_loopw [6, 7] (fun b i wz => ∃ m : Nat, m ≤ 8 ∧ i = .int .i64 m ∧ Blk wz w1.heap.size 143 (st8 U).toArray ∧ OwnB wz (w1.heap.size + 1) b (out8 (U.take m)) ∧ Below w.heap.size w wz) (fun _ i _ => 8 - (intOf i).toNat)
      case atStart => exact ⟨0, by omega, rfl, (unhide hH2).1, OwnB.nil _ _, (unhide hH2).2⟩
      case round =>
        clear hH2
        obtain ⟨m, hm, rfl, hB, hO, hb⟩ := hrel
        rcases Nat.lt_or_ge m 8 with hlt8 | hge8
        · have c1 := (hB.cell m).trans (st8_at U m (by omega))
          obtain ⟨x0, x1⟩ := hUU.at_ m
          generalize hx : U.getD m 0 = x at c1 x0 x1
          have Hx := hide (And.intro hx (And.intro hB (And.intro hO hb))); clear hx hB hO hb
          go_wp2_with fail
          have hol : (out8 (U.take m)).length + 4 ≤ 140737488355328 := by rw [out8_length]; simp; omega
          have hbs : w1.heap.size + 1 ≤ wr.heap.size := (unhide Hx).2.1.lt
          have c1' : ∀ o : Obj, (wr.alloc o).drew.cell? ⟨w1.heap.size, m, none⟩ = some (.int .u32 x) := fun o => (World.cell?_alloc_lt wr o ⟨w1.heap.size, m, none⟩ (by show w1.heap.size < wr.heap.size; omega)).trans c1
          have hne : some w1.heap.size ≠ u6.ownBlock := fun e => by
            have := ((unhide Hx).2.2.1.lt w1.heap.size e.symm).1
            omega
          have Hc1' := hide c1'; clear c1'
          go_region_held3 (fun W => W.cell? ⟨w1.heap.size, m, none⟩ = some (.int .u32 x)) (first | assumption | exact unhide Hc1' _) (first | (refine step_app_cells rfl (.tmp 25) (.tmp 45) rfl ((unhide Hx).2.2.1.drew.alloc _) rfl ⟨wr.heap.size, 0, none⟩ 4 4 (beBytes x 4) rfl rfl (news4 wr x x0 x1) hol (by simp; omega) ?_; intro v' w' hO' hg hat; have c2 : w'.cell? ⟨w1.heap.size, m, none⟩ = some (.int .u32 x) := by { have hb2 := (((unhide Hx).2.1.alloc _).drew.grown hg hne).cell m; rw [hb2, ← (unhide Hx).2.1.cell m]; exact c1 }))
          have HO' := hide (And.intro hO' hg); clear hO' hg hat c2
          go_wp2_with fail
          go_roundw
          case rel =>
            obtain ⟨hO', hg⟩ := unhide HO'
            obtain ⟨hx, hB, hO, hb⟩ := unhide Hx
            refine ⟨m + 1, by omega, by go_num, ((hB.alloc _).drew).grown hg hne, ?_, (below_drewN (hb.alloc hb.size _) 1).grown hg (by show w.heap.size ≤ (wr.alloc _).heap.size; simp; omega) (fun k hk => by have := (hO.lt k hk).1; omega)⟩
            have e : out8 (U.take (m + 1)) = out8 (U.take m) ++ beBytes x 4 := by
              have hmU : m < U.length := by omega
              have hxk : U[m] = x := by rw [← hx]; simp [List.getD, hmU]
              unfold out8
              rw [List.take_succ_eq_append_getElem hmU, List.flatMap_append, hxk]
              simp
            rw [e]; exact hO'
          case measure => simp [intOf]; omega
        · have hcv := conv_own hO
          have Hx := hide hb; clear hb hO
          go_wp2_with fail
          go_ret
          refine ⟨ret_str ?_, unhide Hx⟩
          rw [List.take_of_length_le (by omega), ← HU.out]
          unfold shaB shaL
          rw [show s.data.toList.length = s.size from by simp, HM.out, hK, show 64 * K / 64 = K from by omega]
end Go.Proofs.YtfhaoamlagnpjaaDoor

set_option linter.unusedVariables false
set_option linter.unusedSimpArgs false
namespace Go.Proofs.YtfhaoamlagnpjaaDoor
open Go.RowKit Go.Lib
/-- The first k bytes mixed with x. -/
def mixK (K : List UInt8) (x : UInt8) (k : Nat) : List UInt8 := (K.take k).map (· ^^^ x) ++ K.drop k
theorem mixK_zero (K : List UInt8) (x : UInt8) : mixK K x 0 = K := by simp [mixK]
theorem mixK_all (K : List UInt8) (x : UInt8) (k : Nat) (h : K.length ≤ k) : mixK K x k = K.map (· ^^^ x) := by
  simp [mixK, List.take_of_length_le h, List.drop_eq_nil_of_le h]
theorem mixK_length (K : List UInt8) (x : UInt8) (k : Nat) : (mixK K x k).length = K.length := by simp [mixK]; omega
theorem mixK_at (K : List UInt8) (x : UInt8) (k : Nat) (h : k < K.length) : (byteCells (mixK K x k)).toArray[k]? = some (.int .u8 (K[k].toNat : Int)) := by
  have hl : ((K.take k).map (· ^^^ x)).length = k := by simp; omega
  simp only [byteCells, mixK, List.map_append, List.getElem?_toArray]
  rw [List.getElem?_append_right (by simp; omega)]
  simp [h, Nat.min_eq_left (Nat.le_of_lt h)]
theorem mixK_set (K : List UInt8) (x : UInt8) (k : Nat) (h : k < K.length) : (byteCells (mixK K x k)).toArray.setIfInBounds k (.int .u8 ((K[k] ^^^ x).toNat : Int)) = (byteCells (mixK K x (k + 1))).toArray := by
  have hl : ((K.take k).map (· ^^^ x)).length = k := by simp; omega
  apply Array.ext'
  simp only [List.setIfInBounds_toArray]
  have hd := List.drop_eq_getElem_cons h
  simp only [byteCells, mixK]
  rw [hd, List.take_succ_eq_append_getElem h, List.map_append, List.map_append, List.map_append, List.set_append_right _ _ (by simp; omega)]
  simp only [List.length_map, List.length_take, Nat.min_eq_left (Nat.le_of_lt h), Nat.sub_self]
  simp only [List.map_cons, List.set_cons_zero, List.map_nil, List.map_append, List.append_assoc, List.cons_append, List.nil_append]
theorem u8_xor (a b : UInt8) : bits .xor .u8 (a.toNat : Int) (b.toNat : Int) = ((a ^^^ b).toNat : Int) := by
  have e : ∀ c : UInt8, (BitVec.ofInt 8 (c.toNat : Int)).toNat = c.toNat := fun c => by
    rw [BitVec.ofInt_natCast, BitVec.toNat_ofNat]; exact Nat.mod_eq_of_lt c.toNat_lt
  have hx : (a ^^^ b).toNat < 2 ^ 8 := (a ^^^ b).toNat_lt
  show IntKind.u8.wrap ((BitVec.ofInt 8 (a.toNat : Int) ^^^ BitVec.ofInt 8 (b.toNat : Int)).toNat : Int) = _
  rw [BitVec.toNat_xor, e, e, ← UInt8.toNat_xor]
  simp [IntKind.wrap, IntKind.bits, IntKind.signed] at hx ⊢
  omega
theorem conv_row {w : World} {g off cap : Nat} {bs : List UInt8} (h : ∀ j (hj : j < bs.length), w.cell? ⟨g, off + j, none⟩ = some (.int .u8 (bs[j].toNat : Int))) :
    (convert 75 9 (.slice (some ⟨g, off, none⟩) bs.length cap)).run Tryd.prog w = .ok (.string ⟨bs.toArray⟩) w :=
  Go.run_convert_bytes_back w 75 9 5 ⟨g, off, none⟩ cap bs Tryd.underlying75 Tryd.underlying5 Tryd.underlying9 (fun j hj => by
    have hadd : (⟨g, off, none⟩ : Addr).add j = ⟨g, off + j, none⟩ := by unfold Addr.add; split <;> simp_all
    rw [hadd]
    exact h j hj)
set_option maxRecDepth 100000 in
set_option maxHeartbeats 1000000 in
theorem mixed_any (g : Nat) (K : List UInt8) (x : UInt8) (w : World) (hK : K.length = 64) (hB : Blk w g 135 (byteCells K).toArray) :
    Calls Tryd.prog 95 #[.int .u8 (x.toNat : Int), .pointer (some ⟨g, 0, none⟩)] w fun e w' => e = .returned (.string ⟨(K.map (· ^^^ x)).toArray⟩) ∧ Below w.heap.size w w' := by
  obtain ⟨C, HC⟩ : ∃ C, Hid ((byteCells K).toArray = C) := ⟨_, rfl⟩
  rw [HC.out] at hB
  have hC : C.size = 64 := by rw [← HC.out]; simp [byteCells_length, hK]
  have ci : (Tryd.prog.info? 135).map (·.size) = some C.size := by rw [hC]; kernel_rfl
  have one : C.all (·.oneCell') = true := by
    rw [← HC.out, Array.all_eq_true]
    intro i hi
    exact bytes_one K _ (Array.mem_toList_iff.2 (Array.getElem_mem hi))
  have HB := hide (And.intro hB (And.intro hC (And.intro ci one))); clear hB hC ci one
  go_enter Tryd.func95, Tryd.ntmps95
  go_wp2_with (first | (refine wpList_load_row rfl 135 (.tmp 1) rfl g rfl 135 C (0, 0) _ (unhide HB).1 Tryd.underlying135 rfl (unhide HB).2.2.1 ?_) | (refine wpList_store_row rfl 135 (.tmp 4) (.tmp 6) rfl w.heap.size C rfl rfl 135 _ (heap_alloc_new w _) (unhide HB).2.2.1 (by rw [(unhide HB).2.1]; kernel_rfl) (unhide HB).2.2.2 ?_))
  go_loopw [7] (fun i wr => ∃ k : Nat, k ≤ 64 ∧ i = .int .i64 k ∧ Blk wr w.heap.size 135 (byteCells (mixK K x k)).toArray ∧ Below w.heap.size w wr) (fun i _ => 64 - (intOf i).toNat)
  case atStart =>
    refine ⟨0, by omega, rfl, ?_, ((Below.refl _ _).alloc (Nat.le_refl _) _).setRow (Nat.le_refl _) _⟩
    rw [mixK_zero, HC.out]
    exact setRow_heap _ _ _ _ _ _ (heap_alloc_new w _)
  case round =>
    obtain ⟨k, hk, rfl, hB, hb⟩ := hrel
    rcases Nat.lt_or_ge k 64 with hlt | hge
    · have c1 := (hB.cell k).trans (mixK_at K x k (by omega))
      have f1 := hB.frozen k
      generalize hy : K[k]'(by omega) = y at c1
      have Hx := hide (And.intro hy (And.intro hB hb)); clear hy hB hb
      go_wp2_with fail
      go_roundw
      case rel =>
        obtain ⟨hy, hB, hb⟩ := unhide Hx
        have h := hB.set_ k (.int .u8 (bits .xor .u8 (y.toNat : Int) (x.toNat : Int)))
        rw [u8_xor, ← hy, mixK_set K x k (by omega)] at h
        rw [u8_xor, ← hy]
        exact ⟨k + 1, by omega, by go_num, h, hb.setCell (Nat.le_refl _) _⟩
      case measure => simp [intOf]; omega
    · have hcv := conv_row (g := w.heap.size) (off := 0) (bs := K.map (· ^^^ x)) (cap := 64) (w := wr) (fun j hj => by
        have hj' : j < (mixK K x k).length := by rw [mixK_length]; simpa using hj
        rw [Nat.zero_add, hB.cell j]
        simp only [mixK_all K x k (by omega)]
        simp only [byteCells, List.getElem?_toArray, List.getElem?_map, List.getElem?_eq_getElem hj, Option.map_some])
      rw [show (K.map (· ^^^ x)).length = 64 from by simpa using hK] at hcv
      have Hx := hide hb; clear hB hb
      go_wp2_with fail
      go_ret
      exact ⟨rfl, unhide Hx⟩
/-- A key as a block. -/
def keyK (key : List UInt8) : List UInt8 := key ++ List.replicate (64 - key.length) 0
def keyS (key : List UInt8) : List UInt8 := if key.length ≤ 64 then key else shaL key
def macL (key msg : List UInt8) : List UInt8 := shaL ((keyK (keyS key)).map (· ^^^ 92) ++ shaL ((keyK (keyS key)).map (· ^^^ 54) ++ msg))
theorem keyS_length (key : List UInt8) : (keyS key).length ≤ 64 := by
  unfold keyS
  split
  · assumption
  · rw [shaL_length]; omega
theorem keyK_length {key : List UInt8} (h : key.length ≤ 64) : (keyK key).length = 64 := by simp [keyK]; omega
theorem macL_length (key msg : List UInt8) : (macL key msg).length = 32 := shaL_length _
theorem copyK (k : ByteArray) (h : k.size ≤ 64) : (List.take 0 (List.replicate 64 (Value.int .u8 0)) ++ byteCells (List.take k.size k.data.toList) ++ List.drop (0 + k.size) (List.replicate 64 (Value.int .u8 0))) = byteCells (keyK k.data.toList) := by
  have hl : k.data.toList.length = k.size := by simp
  rw [← hl, List.take_length]
  simp only [List.take_zero, List.nil_append, Nat.zero_add, List.drop_replicate, byteCells, keyK, List.map_append, List.map_replicate]
  rfl
set_option maxRecDepth 100000 in
set_option maxHeartbeats 1000000 in
theorem mac_any (key msg : ByteArray) (w : World) (hk : key.size ≤ 562949953421312) (hm : msg.size ≤ 281474976710656) (htab : TabOk w) (hbg : BeginOk w) :
    Calls Tryd.prog 69 #[.string key, .string msg] w fun e w' => e = .returned (.string ⟨(macL key.data.toList msg.data.toList).toArray⟩) ∧ Below w.heap.size w w' := by
  have hmf := run_mkf
  rcases Nat.lt_or_ge 64 key.size with h64 | h64
  · have hs := sum_any key w hk htab hbg
    have HT := hide (And.intro htab hbg)
    clear htab hbg
    go_enter Tryd.func69, Tryd.ntmps69
    go_wp2_with fail
    refine hs.mono ?_
    rintro e w0 ⟨rfl, hb0⟩
    have hkS : Hid (keyS key.data.toList = (shaB key).data.toList) := Lib.hid (by unfold keyS; rw [if_neg (by simpa using h64)]; rfl)
    have hk2 : (shaB key).size ≤ 64 := by rw [shaB_size]; omega
    obtain ⟨k2, Hk2⟩ : ∃ k, Hid (shaB key = k) := ⟨_, rfl⟩
    rw [Hk2.out] at hk2 hkS ⊢
    have HT0 := hide (And.intro ((unhide HT).1.below hb0 (unhide HT).1.lt) ((unhide HT).2.below hb0 (unhide HT).2.lt))
    have Hb0 := hide hb0
    clear hb0 hs
    go_wp2_with (first | (refine wpList_copy_str _ rfl (.tmp 12) (.tmp 13) rfl (Blk.new _ _ _) 0 64 64 _ rfl rfl k2.size (by omega) (by simp; omega) ?_; intro w1 hB1 hg1 hz1; have H1 := hide (And.intro hB1 (And.intro hg1 hz1)); clear hB1 hg1 hz1))
    have hB1 : Blk w1 w0.heap.size 135 (byteCells (keyK k2.data.toList)).toArray := by
      rw [← copyK k2 hk2]; exact (unhide H1).1
    have hb1 : Below w.heap.size w w1 := ((unhide Hb0).alloc (unhide Hb0).size _).grown (unhide H1).2.1 (by have := (unhide Hb0).size; simp <;> omega) (fun k hk => by cases hk; exact (unhide Hb0).size)
    have hb10 : Below w0.heap.size w0 w1 := ((Below.refl _ _).alloc (Nat.le_refl _) _).grown (unhide H1).2.1 (by simp) (fun k hk => by cases hk; exact Nat.le_refl _)
    have hT1 : TabOk w1 ∧ BeginOk w1 := ⟨(unhide HT0).1.below hb10 (unhide HT0).1.lt, (unhide HT0).2.below hb10 (unhide HT0).2.lt⟩
    have hkl : (keyK k2.data.toList).length = 64 := keyK_length (by simpa using hk2)
    have hm1 := mixed_any w0.heap.size (keyK k2.data.toList) 92 w1 hkl hB1
    have H2 := hide (And.intro hB1 (And.intro hb1 (And.intro hT1 hkl))); clear hB1 hb1 hb10 hT1 hkl H1
    refine hm1.mono ?_
    rintro e w2 ⟨rfl, hb2⟩
    have hB2 := (unhide H2).1.below hb2 (unhide H2).1.lt
    have hb2' : Below w.heap.size w w2 := (unhide H2).2.1.trans (hb2.mono (unhide H2).2.1.size)
    have hT2 : TabOk w2 ∧ BeginOk w2 := ⟨(unhide H2).2.2.1.1.below hb2 (unhide H2).2.2.1.1.lt, (unhide H2).2.2.1.2.below hb2 (unhide H2).2.2.1.2.lt⟩
    have hm2 := mixed_any w0.heap.size (keyK k2.data.toList) 54 w2 (unhide H2).2.2.2 hB2
    have H3 := hide (And.intro hb2' hT2); clear hb2 hB2 hb2' hT2 hm1
    go_wp2_with fail
    refine hm2.mono ?_
    rintro e w3 ⟨rfl, hb3⟩
    have hb3' : Below w.heap.size w w3 := (unhide H3).1.trans (hb3.mono (unhide H3).1.size)
    have hT3 : TabOk w3 ∧ BeginOk w3 := ⟨(unhide H3).2.1.below hb3 (unhide H3).2.1.lt, (unhide H3).2.2.below hb3 (unhide H3).2.2.lt⟩
    have hA : ((⟨((keyK k2.data.toList).map (· ^^^ 54)).toArray⟩ : ByteArray)).size = 64 := by simpa [ByteArray.size] using (unhide H2).2.2.2
    have hC : ((⟨((keyK k2.data.toList).map (· ^^^ 92)).toArray⟩ : ByteArray)).size = 64 := by simpa [ByteArray.size] using (unhide H2).2.2.2
    obtain ⟨A, HA⟩ : ∃ A, Hid ((⟨((keyK k2.data.toList).map (· ^^^ 54)).toArray⟩ : ByteArray) = A) := ⟨_, Lib.hid rfl⟩
    obtain ⟨C, HC⟩ : ∃ C, Hid ((⟨((keyK k2.data.toList).map (· ^^^ 92)).toArray⟩ : ByteArray) = C) := ⟨_, Lib.hid rfl⟩
    rw [HA.out] at hA ⊢
    rw [HC.out] at hC ⊢
    have hs3 := sum_any (A ++ msg) w3 (by rw [ByteArray.size_append]; omega) hT3.1 hT3.2
    have H4 := hide (And.intro hb3' hT3); clear hb3 hb3' hT3 hm2 H3
    go_wp2_with fail
    refine hs3.mono ?_
    rintro e w4 ⟨rfl, hb4⟩
    have hb4' : Below w.heap.size w w4 := (unhide H4).1.trans (hb4.mono (unhide H4).1.size)
    have hT4 : TabOk w4 ∧ BeginOk w4 := ⟨(unhide H4).2.1.below hb4 (unhide H4).2.1.lt, (unhide H4).2.2.below hb4 (unhide H4).2.2.lt⟩
    have hs4 := sum_any (C ++ shaB (A ++ msg)) w4 (by rw [ByteArray.size_append, shaB_size]; omega) hT4.1 hT4.2
    have hsz := shaB_size (A ++ msg)
    have H5 := hide (And.intro hb4' hT4); clear hb4 hb4' hT4 hs3 H4
    go_wp2_with fail
    refine hs4.mono ?_
    rintro e w5 ⟨rfl, hb5⟩
    go_wp2_with fail
    go_ret
    refine ⟨ret_str ?_, (unhide H5).1.trans (hb5.mono (unhide H5).1.size)⟩
    unfold macL
    rw [hkS.out, ← HA.out, ← HC.out]
    simp only [shaB, ByteArray.data_append, Array.toList_append]
  · obtain ⟨k2, rfl⟩ : ∃ k, k = key := ⟨_, rfl⟩
    obtain ⟨w0, rfl⟩ : ∃ k, k = w := ⟨_, rfl⟩
    have hkS : Hid (keyS k2.data.toList = k2.data.toList) := Lib.hid (by unfold keyS; rw [if_pos (by simpa using h64)])
    have hk2 : k2.size ≤ 64 := h64
    have HT0 := hide (And.intro htab hbg)
    have Hb0 := hide (Below.refl w0.heap.size w0)
    clear htab hbg
    go_enter Tryd.func69, Tryd.ntmps69
    go_wp2_with (first | (refine wpList_copy_str _ rfl (.tmp 12) (.tmp 13) rfl (Blk.new _ _ _) 0 64 64 _ rfl rfl k2.size (by omega) (by simp; omega) ?_; intro w1 hB1 hg1 hz1; have H1 := hide (And.intro hB1 (And.intro hg1 hz1)); clear hB1 hg1 hz1))
    have hB1 : Blk w1 w0.heap.size 135 (byteCells (keyK k2.data.toList)).toArray := by
      rw [← copyK k2 hk2]; exact (unhide H1).1
    have hb1 : Below w0.heap.size w0 w1 := ((unhide Hb0).alloc (unhide Hb0).size _).grown (unhide H1).2.1 (by have := (unhide Hb0).size; simp <;> omega) (fun k hk => by cases hk; exact (unhide Hb0).size)
    have hb10 : Below w0.heap.size w0 w1 := ((Below.refl _ _).alloc (Nat.le_refl _) _).grown (unhide H1).2.1 (by simp) (fun k hk => by cases hk; exact Nat.le_refl _)
    have hT1 : TabOk w1 ∧ BeginOk w1 := ⟨(unhide HT0).1.below hb10 (unhide HT0).1.lt, (unhide HT0).2.below hb10 (unhide HT0).2.lt⟩
    have hkl : (keyK k2.data.toList).length = 64 := keyK_length (by simpa using hk2)
    have hm1 := mixed_any w0.heap.size (keyK k2.data.toList) 92 w1 hkl hB1
    have H2 := hide (And.intro hB1 (And.intro hb1 (And.intro hT1 hkl))); clear hB1 hb1 hb10 hT1 hkl H1
    refine hm1.mono ?_
    rintro e w2 ⟨rfl, hb2⟩
    have hB2 := (unhide H2).1.below hb2 (unhide H2).1.lt
    have hb2' : Below w0.heap.size w0 w2 := (unhide H2).2.1.trans (hb2.mono (unhide H2).2.1.size)
    have hT2 : TabOk w2 ∧ BeginOk w2 := ⟨(unhide H2).2.2.1.1.below hb2 (unhide H2).2.2.1.1.lt, (unhide H2).2.2.1.2.below hb2 (unhide H2).2.2.1.2.lt⟩
    have hm2 := mixed_any w0.heap.size (keyK k2.data.toList) 54 w2 (unhide H2).2.2.2 hB2
    have H3 := hide (And.intro hb2' hT2); clear hb2 hB2 hb2' hT2 hm1
    go_wp2_with fail
    refine hm2.mono ?_
    rintro e w3 ⟨rfl, hb3⟩
    have hb3' : Below w0.heap.size w0 w3 := (unhide H3).1.trans (hb3.mono (unhide H3).1.size)
    have hT3 : TabOk w3 ∧ BeginOk w3 := ⟨(unhide H3).2.1.below hb3 (unhide H3).2.1.lt, (unhide H3).2.2.below hb3 (unhide H3).2.2.lt⟩
    have hA : ((⟨((keyK k2.data.toList).map (· ^^^ 54)).toArray⟩ : ByteArray)).size = 64 := by simpa [ByteArray.size] using (unhide H2).2.2.2
    have hC : ((⟨((keyK k2.data.toList).map (· ^^^ 92)).toArray⟩ : ByteArray)).size = 64 := by simpa [ByteArray.size] using (unhide H2).2.2.2
    obtain ⟨A, HA⟩ : ∃ A, Hid ((⟨((keyK k2.data.toList).map (· ^^^ 54)).toArray⟩ : ByteArray) = A) := ⟨_, Lib.hid rfl⟩
    obtain ⟨C, HC⟩ : ∃ C, Hid ((⟨((keyK k2.data.toList).map (· ^^^ 92)).toArray⟩ : ByteArray) = C) := ⟨_, Lib.hid rfl⟩
    rw [HA.out] at hA ⊢
    rw [HC.out] at hC ⊢
    have hs3 := sum_any (A ++ msg) w3 (by rw [ByteArray.size_append]; omega) hT3.1 hT3.2
    have H4 := hide (And.intro hb3' hT3); clear hb3 hb3' hT3 hm2 H3
    go_wp2_with fail
    refine hs3.mono ?_
    rintro e w4 ⟨rfl, hb4⟩
    have hb4' : Below w0.heap.size w0 w4 := (unhide H4).1.trans (hb4.mono (unhide H4).1.size)
    have hT4 : TabOk w4 ∧ BeginOk w4 := ⟨(unhide H4).2.1.below hb4 (unhide H4).2.1.lt, (unhide H4).2.2.below hb4 (unhide H4).2.2.lt⟩
    have hs4 := sum_any (C ++ shaB (A ++ msg)) w4 (by rw [ByteArray.size_append, shaB_size]; omega) hT4.1 hT4.2
    have hsz := shaB_size (A ++ msg)
    have H5 := hide (And.intro hb4' hT4); clear hb4 hb4' hT4 hs3 H4
    go_wp2_with fail
    refine hs4.mono ?_
    rintro e w5 ⟨rfl, hb5⟩
    go_wp2_with fail
    go_ret
    refine ⟨ret_str ?_, (unhide H5).1.trans (hb5.mono (unhide H5).1.size)⟩
    unfold macL
    rw [hkS.out, ← HA.out, ← HC.out]
    simp only [shaB, ByteArray.data_append, Array.toList_append]
end Go.Proofs.YtfhaoamlagnpjaaDoor

set_option linter.unusedVariables false
set_option linter.unusedSimpArgs false
namespace Go.Proofs.YtfhaoamlagnpjaaDoor
open Go.RowKit Go.Lib
/-- "annals key", in bytes. -/
def keyWord : List UInt8 := [97, 110, 110, 97, 108, 115, 32, 107, 101, 121]
def keyIDL (name secret : List UInt8) : List UInt8 := (shaL (name ++ [10, 2] ++ macL secret keyWord)).take 4
theorem keyIDL_length (name secret : List UInt8) : (keyIDL name secret).length = 4 := by simp [keyIDL, shaL_length]
set_option maxRecDepth 100000 in
set_option maxHeartbeats 1000000 in
theorem keyID_any (name secret : ByteArray) (w : World) (hn : name.size ≤ 281474976710656) (hs : secret.size ≤ 562949953421312) (htab : TabOk w) (hbg : BeginOk w) :
    Calls Tryd.prog 39 #[.string name, .string secret] w fun e w' => e = .returned (.string ⟨(keyIDL name.data.toList secret.data.toList).toArray⟩) ∧ Below w.heap.size w w' := by
  have hm := mac_any secret ⟨#[97, 110, 110, 97, 108, 115, 32, 107, 101, 121]⟩ w (by omega) (by decide) htab hbg
  have HT := hide (And.intro htab hbg)
  clear htab hbg
  have hkw : Hid ((⟨#[97, 110, 110, 97, 108, 115, 32, 107, 101, 121]⟩ : ByteArray).data.toList = keyWord) := Lib.hid rfl
  have hlen := macL_length secret.data.toList (⟨#[97, 110, 110, 97, 108, 115, 32, 107, 101, 121]⟩ : ByteArray).data.toList
  go_enter Tryd.func39, Tryd.ntmps39
  go_wp2_with fail
  refine hm.mono ?_
  rintro e w1 ⟨rfl, hb1⟩
  obtain ⟨M, HM⟩ : ∃ M, Hid ((⟨(macL secret.data.toList (⟨#[97, 110, 110, 97, 108, 115, 32, 107, 101, 121]⟩ : ByteArray).data.toList).toArray⟩ : ByteArray) = M) := ⟨_, Lib.hid rfl⟩
  have hMs : M.size = 32 := by rw [← HM.out]; simpa [ByteArray.size] using hlen
  rw [HM.out]
  have hs1 := sum_any (name ++ ⟨#[10, 2]⟩ ++ M) w1 (by rw [ByteArray.size_append, ByteArray.size_append, show (⟨#[10, 2]⟩ : ByteArray).size = 2 from rfl]; omega) ((unhide HT).1.below hb1 (unhide HT).1.lt) ((unhide HT).2.below hb1 (unhide HT).2.lt)
  have hsz := shaB_size (name ++ ⟨#[10, 2]⟩ ++ M)
  have H1 := hide hb1; clear hb1 hm hlen
  go_wp2_with fail
  refine hs1.mono ?_
  rintro e w2 ⟨rfl, hb2⟩
  clear hs1
  go_wp2_with fail
  go_ret
  refine ⟨ret_str ?_, (unhide H1).trans (hb2.mono (unhide H1).size)⟩
  apply ByteArray.ext
  apply Array.ext'
  rw [show (shaB (name ++ ⟨#[10, 2]⟩ ++ M)).extract 0 4 = (shaB (name ++ ⟨#[10, 2]⟩ ++ M)).extract 0 4 from rfl, extract_list _ _ _ (by rw [hsz]; decide)]
  simp only [keyIDL, shaB, List.drop_zero, Nat.sub_zero, ByteArray.data_append, Array.toList_append, ← HM.out, hkw.out]
theorem xor_in (a b : UInt8) : 0 ≤ bits .xor .u8 (a.toNat : Int) (b.toNat : Int) ∧ bits .xor .u8 (a.toNat : Int) (b.toNat : Int) < 256 := by
  rw [u8_xor]
  have := (a ^^^ b).toNat_lt
  omega
theorem xor_back (a b : UInt8) : (bits .xor .u8 (a.toNat : Int) (b.toNat : Int)).toNat.toUInt8 = a ^^^ b := by
  rw [u8_xor, Int.toNat_natCast]
  simp
theorem keyK_take (k2 : ByteArray) (x : UInt8) (k : Nat) (c : UInt8) (h64 : k2.size ≤ 64) (hk : k < 64) (hc : c = if h : k < k2.size then k2[k] else 0) :
    ((keyK k2.data.toList).map (· ^^^ x)).take (k + 1) = ((keyK k2.data.toList).map (· ^^^ x)).take k ++ [c ^^^ x] := by
  have hl : (keyK k2.data.toList).length = 64 := keyK_length (by simpa using h64)
  have hkm : k < ((keyK k2.data.toList).map (· ^^^ x)).length := by simpa [hl] using hk
  rw [List.take_succ_eq_append_getElem hkm]
  congr 2
  rw [List.getElem_map]
  congr 1
  rw [hc]
  simp only [keyK]
  split
  · rename_i h
    rw [List.getElem_append_left (by simpa using h)]
    simp [ByteArray.getElem_eq_getElem_data]
  · rename_i h
    rw [List.getElem_append_right (by simpa using h)]
    simp
set_option maxRecDepth 100000 in
set_option maxHeartbeats 1000000 in
theorem keyed_any (key : ByteArray) (x : UInt8) (w : World) (hk : key.size ≤ 35184372088832) (htab : TabOkR w) (hf : FirstOk w) :
    Calls Tryd.prog 98 #[.string key, .int .u8 (x.toNat : Int)] w fun e w' => e = .returned (.string ⟨((keyK (keyS key.data.toList)).map (· ^^^ x)).toArray⟩) ∧ Below w.heap.size w w' := by
  have hx : (bits .xor .u8 0 (x.toNat : Int)) = ((0 ^^^ x).toNat : Int) := u8_xor 0 x
  rcases Nat.lt_or_ge 64 key.size with h64 | h64
  · have hs := rsum_any key w hk htab hf
    clear htab hf
    go_enter Tryd.func98, Tryd.ntmps98
    go_wp2_with fail
    refine hs.mono ?_
    rintro e w0 ⟨rfl, hb0⟩
    have hkS : Hid (keyS key.data.toList = (shaB key).data.toList) := Lib.hid (by unfold keyS; rw [if_neg (by simpa using h64)]; rfl)
    have hk2 : (shaB key).size ≤ 64 := by rw [shaB_size]; omega
    obtain ⟨k2, Hk2⟩ : ∃ k, Hid (shaB key = k) := ⟨_, Lib.hid rfl⟩
    rw [Hk2.out] at hk2 hkS ⊢
    have Hb0 := hide hb0
    clear hb0 hs
    go_wp2_with fail
    go_loopw [5, 6] (fun b i wr => ∃ k : Nat, k ≤ 64 ∧ i = .int .i64 k ∧ OwnB wr w.heap.size b (((keyK k2.data.toList).map (· ^^^ x)).take k) ∧ Below w.heap.size w wr) (fun _ i _ => 64 - (intOf i).toNat)
    case atStart => exact ⟨0, by omega, rfl, OwnB.nil _ _, unhide Hb0⟩
    case round =>
      obtain ⟨k, hk, rfl, hO, hb⟩ := hrel
      rcases Nat.lt_or_ge k 64 with hlt | hge
      · have Hx := hide (And.intro hO hb); clear hO hb
        have hlen : (((keyK k2.data.toList).map (· ^^^ x)).take k).length + 1 ≤ 140737488355328 := by simp; omega
        rcases Nat.lt_or_ge k k2.size with hlk | hlk
        · go_wp2_with (first | (at_builtin; refine wpList_app1 wr rfl (.tmp 24) (.tmp 28) rfl (unhide Hx).1 rfl rfl (xor_in _ _).1 (xor_in _ _).2 hlen (unhide Hx).2.size ?_; intro v' w' hO' hg hat; have HO' := hide (And.intro hO' (And.intro hg hat)); clear hO' hg hat))
          go_roundw
          case rel =>
            obtain ⟨hO', hg, hat⟩ := unhide HO'
            obtain ⟨hO, hb⟩ := unhide Hx
            rw [xor_back] at hO'
            refine ⟨k + 1, by omega, by go_num, ?_, (hb.alloc hb.size _).grown hg (by simp; have := hb.size; omega) (fun k hk => (hO.lt k hk).1)⟩
            rw [keyK_take k2 x k k2[k] hk2 hlt (by rw [dif_pos hlk])]
            exact hO'
          case measure => simp [intOf]; omega
        · go_wp2_with (first | (at_builtin; refine wpList_app1 wr rfl (.tmp 24) (.tmp 28) rfl (unhide Hx).1 rfl rfl (Int.natCast_nonneg _) (by have := x.toNat_lt; omega) hlen (unhide Hx).2.size ?_; intro v' w' hO' hg hat; have HO' := hide (And.intro hO' (And.intro hg hat)); clear hO' hg hat))
          go_roundw
          case rel =>
            obtain ⟨hO', hg, hat⟩ := unhide HO'
            obtain ⟨hO, hb⟩ := unhide Hx
            refine ⟨k + 1, by omega, by go_num, ?_, (hb.alloc hb.size _).grown hg (by simp; have := hb.size; omega) (fun k hk => (hO.lt k hk).1)⟩
            rw [keyK_take k2 x k 0 hk2 hlt (by rw [dif_neg (by omega)])]
            simpa using hO'
          case measure => simp [intOf]; omega
      · have hcv := conv_own hO
        have Hx := hide hb; clear hb hO
        go_wp2_with fail
        go_ret
        refine ⟨ret_str ?_, unhide Hx⟩
        rw [hkS.out, List.take_of_length_le (by rw [List.length_map, keyK_length (by simpa using hk2)]; exact hge)]
  · obtain ⟨k2, rfl⟩ : ∃ k, k = key := ⟨_, rfl⟩
    have hkS : Hid (keyS k2.data.toList = k2.data.toList) := Lib.hid (by unfold keyS; rw [if_pos (by simpa using h64)])
    have hk2 : k2.size ≤ 64 := h64
    have Hb0 := hide (Below.refl w.heap.size w)
    clear htab hf
    go_enter Tryd.func98, Tryd.ntmps98
    go_wp2_with fail
    go_loopw [5, 6] (fun b i wr => ∃ k : Nat, k ≤ 64 ∧ i = .int .i64 k ∧ OwnB wr w.heap.size b (((keyK k2.data.toList).map (· ^^^ x)).take k) ∧ Below w.heap.size w wr) (fun _ i _ => 64 - (intOf i).toNat)
    case atStart => exact ⟨0, by omega, rfl, OwnB.nil _ _, unhide Hb0⟩
    case round =>
      obtain ⟨k, hk, rfl, hO, hb⟩ := hrel
      rcases Nat.lt_or_ge k 64 with hlt | hge
      · have Hx := hide (And.intro hO hb); clear hO hb
        have hlen : (((keyK k2.data.toList).map (· ^^^ x)).take k).length + 1 ≤ 140737488355328 := by simp; omega
        rcases Nat.lt_or_ge k k2.size with hlk | hlk
        · go_wp2_with (first | (at_builtin; refine wpList_app1 wr rfl (.tmp 24) (.tmp 28) rfl (unhide Hx).1 rfl rfl (xor_in _ _).1 (xor_in _ _).2 hlen (unhide Hx).2.size ?_; intro v' w' hO' hg hat; have HO' := hide (And.intro hO' (And.intro hg hat)); clear hO' hg hat))
          go_roundw
          case rel =>
            obtain ⟨hO', hg, hat⟩ := unhide HO'
            obtain ⟨hO, hb⟩ := unhide Hx
            rw [xor_back] at hO'
            refine ⟨k + 1, by omega, by go_num, ?_, (hb.alloc hb.size _).grown hg (by simp; have := hb.size; omega) (fun k hk => (hO.lt k hk).1)⟩
            rw [keyK_take k2 x k k2[k] hk2 hlt (by rw [dif_pos hlk])]
            exact hO'
          case measure => simp [intOf]; omega
        · go_wp2_with (first | (at_builtin; refine wpList_app1 wr rfl (.tmp 24) (.tmp 28) rfl (unhide Hx).1 rfl rfl (Int.natCast_nonneg _) (by have := x.toNat_lt; omega) hlen (unhide Hx).2.size ?_; intro v' w' hO' hg hat; have HO' := hide (And.intro hO' (And.intro hg hat)); clear hO' hg hat))
          go_roundw
          case rel =>
            obtain ⟨hO', hg, hat⟩ := unhide HO'
            obtain ⟨hO, hb⟩ := unhide Hx
            refine ⟨k + 1, by omega, by go_num, ?_, (hb.alloc hb.size _).grown hg (by simp; have := hb.size; omega) (fun k hk => (hO.lt k hk).1)⟩
            rw [keyK_take k2 x k 0 hk2 hlt (by rw [dif_neg (by omega)])]
            simpa using hO'
          case measure => simp [intOf]; omega
      · have hcv := conv_own hO
        have Hx := hide hb; clear hb hO
        go_wp2_with fail
        go_ret
        refine ⟨ret_str ?_, unhide Hx⟩
        rw [hkS.out, List.take_of_length_le (by rw [List.length_map, keyK_length (by simpa using hk2)]; exact hge)]
end Go.Proofs.YtfhaoamlagnpjaaDoor

set_option linter.unusedVariables false
set_option linter.unusedSimpArgs false
namespace Go.Proofs.YtfhaoamlagnpjaaDoor
open Go.RowKit
set_option maxRecDepth 100000 in
set_option maxHeartbeats 1000000 in
theorem rname_any (s : ByteArray) (w : World) (hs : s.size ≤ maxLen) : Calls Tryd.prog 40 #[.string s] w fun e w' => e = .returned (.bool (nameOk s)) ∧ w = w' := by
  have hs' : s.size ≤ 9223372036854775807 := by simpa [maxLen] using hs
  go_enter Tryd.func40, Tryd.ntmps40
  go_wp2_with fail
  go_loopw [3] (fun i wr => ∃ k : Nat, k ≤ s.size ∧ i = .int .i64 k ∧ Hid (w = wr) ∧ Hid (∀ j (hj : j < s.size), j < k → nameByte s[j].toNat = true)) (fun i _ => s.size - (intOf i).toNat)
  case atStart => exact ⟨0, by omega, rfl, rfl, fun j _ h => by omega⟩
  case round =>
    obtain ⟨k, hk, rfl, hw, hb⟩ := hrel
    obtain rfl := hw.out
    rcases Nat.lt_or_ge k s.size with hlt | hge
    · have hu := s[k].toNat_lt
      by_cases h1 : s[k].toNat < 33
      · have hf : Hid (nameOk s = false) := by
          have : nameAll s = false := all_false_at s _ k hlt (by simp [nameByte]; omega)
          simp [Hid, nameOk, this]
        go_wp2_with fail
        go_ret
        exact ⟨ret_bool hf.out.symm, rfl⟩
      · by_cases h2 : 126 < s[k].toNat
        · have hf : Hid (nameOk s = false) := by
            have : nameAll s = false := all_false_at s _ k hlt (by simp [nameByte]; omega)
            simp [Hid, nameOk, this]
          go_wp2_with fail
          go_ret
          exact ⟨ret_bool hf.out.symm, rfl⟩
        · by_cases h3 : s[k].toNat = 43
          · have hf : Hid (nameOk s = false) := by
              have : nameAll s = false := all_false_at s _ k hlt (by simp [nameByte, h3])
              simp [Hid, nameOk, this]
            go_wp2_with fail
            go_ret
            exact ⟨ret_bool hf.out.symm, rfl⟩
          · have ht : Hid (nameByte s[k].toNat = true) := by simp [Hid, nameByte]; omega
            have h3' : ((s[k].toNat : Int) == 43) = false := by simp; omega
            go_wp2_with fail
            refine ⟨⟨k + 1, by omega, by go_num, Lib.hid trivial, fun j hj hjk => ?_⟩, by simp [intOf]; omega⟩
            rcases Nat.lt_succ_iff_lt_or_eq.1 hjk with h' | rfl
            · exact hb.out j hj h'
            · exact ht.out
    · have ha : Hid (nameAll s = true) := all_take_size s _ (fun j hj => hb.out j hj (by omega))
      have hz : Hid (nameOk s = (decide (1 ≤ s.size) && decide (s.size ≤ 64))) := by simp [Hid, nameOk, ha.out]
      by_cases h0 : 1 ≤ s.size
      · have hz : Hid (nameOk s = decide (((s.size : Nat) : Int) ≤ 64)) := by
          rw [Hid, hz.out]; simp [h0]; omega
        clear hb ha
        go_wp2_with fail
        go_ret
        exact ⟨ret_bool hz.out.symm, rfl⟩
      · have hz : Hid (nameOk s = false) := by rw [Hid, hz.out]; simp [h0]
        clear hb ha
        go_wp2_with fail
        go_ret
        exact ⟨ret_bool hz.out.symm, rfl⟩
end Go.Proofs.YtfhaoamlagnpjaaDoor

set_option linter.unusedVariables false
set_option linter.unusedSimpArgs false
namespace Go.Proofs.YtfhaoamlagnpjaaDoor
open Go.RowKit
set_option maxHeartbeats 400000 in
theorem noteID_no (n s : ByteArray) (w : World) (hn : n.size ≤ maxLen) (hno : nameOk n = false) :
    Calls Tryd.prog 14 #[.agg #[.string n, .string s]] w fun e w' => e = .returned (.tuple #[.string ⟨#[]⟩, .int .i64 203]) ∧ Below w.heap.size w w' := by
  have Hno := hide hno; clear hno
  go_enter Tryd.func14, Tryd.ntmps14
  go_wp2_with fail
  refine (name_any _ _ hn).mono ?_
  rintro e w1 ⟨rfl, rfl⟩
  rw [unhide Hno]
  go_wp2
  go_ret2
  exact ⟨rfl, (Below.refl _ _).alloc (Nat.le_refl _) _⟩
end Go.Proofs.YtfhaoamlagnpjaaDoor

set_option linter.unusedVariables false
set_option linter.unusedSimpArgs false
namespace Go.Proofs.YtfhaoamlagnpjaaDoor
open Go.RowKit Go.Lib
set_option maxRecDepth 100000 in
set_option maxHeartbeats 1000000 in
theorem rmac_any (key msg : ByteArray) (w : World) (hk : key.size ≤ 35184372088832) (hm : msg.size ≤ 17592186044416) (htab : TabOkR w) (hf : FirstOk w) :
    Calls Tryd.prog 72 #[.string key, .string msg] w fun e w' => e = .returned (.string ⟨(macL key.data.toList msg.data.toList).toArray⟩) ∧ Below w.heap.size w w' := by
  have h1 := keyed_any key 54 w hk htab hf
  have hkl : (keyK (keyS key.data.toList)).length = 64 := keyK_length (keyS_length _)
  have hA : ((⟨((keyK (keyS key.data.toList)).map (· ^^^ 54)).toArray⟩ : ByteArray)).size = 64 := by simpa [ByteArray.size] using hkl
  have hC : ((⟨((keyK (keyS key.data.toList)).map (· ^^^ 92)).toArray⟩ : ByteArray)).size = 64 := by simpa [ByteArray.size] using hkl
  obtain ⟨A, HA⟩ : ∃ A, Hid ((⟨((keyK (keyS key.data.toList)).map (· ^^^ 54)).toArray⟩ : ByteArray) = A) := ⟨_, Lib.hid rfl⟩
  obtain ⟨C, HC⟩ : ∃ C, Hid ((⟨((keyK (keyS key.data.toList)).map (· ^^^ 92)).toArray⟩ : ByteArray) = C) := ⟨_, Lib.hid rfl⟩
  rw [HA.out] at hA h1
  rw [HC.out] at hC
  have HT := hide (And.intro htab hf)
  clear htab hf
  go_enter Tryd.func72, Tryd.ntmps72
  go_wp2_with fail
  refine h1.mono ?_
  rintro e w1 ⟨rfl, hb1⟩
  have hs1 := rsum_any (A ++ msg) w1 (by rw [ByteArray.size_append]; omega) ((unhide HT).1.below hb1 (unhide HT).1.lt) ((unhide HT).2.below hb1 (unhide HT).2.lt)
  have H1 := hide (And.intro hb1 (And.intro ((unhide HT).1.below hb1 (unhide HT).1.lt) ((unhide HT).2.below hb1 (unhide HT).2.lt))); clear hb1 h1
  go_wp2_with fail
  refine hs1.mono ?_
  rintro e w2 ⟨rfl, hb2⟩
  have hb2' : Below w.heap.size w w2 := (unhide H1).1.trans (hb2.mono (unhide H1).1.size)
  have hT2 := And.intro ((unhide H1).2.1.below hb2 (unhide H1).2.1.lt) ((unhide H1).2.2.below hb2 (unhide H1).2.2.lt)
  have h2 := keyed_any key 92 w2 hk hT2.1 hT2.2
  rw [HC.out] at h2
  have H2 := hide (And.intro hb2' hT2); clear hb2 hb2' hT2 hs1
  go_wp2_with fail
  refine h2.mono ?_
  rintro e w3 ⟨rfl, hb3⟩
  have hb3' : Below w.heap.size w w3 := (unhide H2).1.trans (hb3.mono (unhide H2).1.size)
  have hT3 := And.intro ((unhide H2).2.1.below hb3 (unhide H2).2.1.lt) ((unhide H2).2.2.below hb3 (unhide H2).2.2.lt)
  have hs3 := rsum_any (C ++ shaB (A ++ msg)) w3 (by rw [ByteArray.size_append, shaB_size]; omega) hT3.1 hT3.2
  have hsz := shaB_size (A ++ msg)
  have H3 := hide hb3'; clear hb3 hb3' hT3 h2 H2
  go_wp2_with fail
  refine hs3.mono ?_
  rintro e w4 ⟨rfl, hb4⟩
  go_wp2_with fail
  go_ret
  refine ⟨ret_str ?_, (unhide H3).trans (hb4.mono (unhide H3).size)⟩
  unfold macL
  rw [← HA.out, ← HC.out]
  simp only [shaB, ByteArray.data_append, Array.toList_append]
set_option maxRecDepth 100000 in
set_option maxHeartbeats 1000000 in
theorem rkeyID_any (name secret : ByteArray) (w : World) (hn : name.size ≤ 17592186044416) (hs : secret.size ≤ 35184372088832) (htab : TabOkR w) (hf : FirstOk w) :
    Calls Tryd.prog 41 #[.string name, .string secret] w fun e w' => e = .returned (.string ⟨(keyIDL name.data.toList secret.data.toList).toArray⟩) ∧ Below w.heap.size w w' := by
  have hm := rmac_any secret ⟨#[97, 110, 110, 97, 108, 115, 32, 107, 101, 121]⟩ w (by omega) (by decide) htab hf
  have HT := hide (And.intro htab hf)
  clear htab hf
  have hkw : Hid ((⟨#[97, 110, 110, 97, 108, 115, 32, 107, 101, 121]⟩ : ByteArray).data.toList = keyWord) := Lib.hid rfl
  have hlen := macL_length secret.data.toList (⟨#[97, 110, 110, 97, 108, 115, 32, 107, 101, 121]⟩ : ByteArray).data.toList
  go_enter Tryd.func41, Tryd.ntmps41
  go_wp2_with fail
  refine hm.mono ?_
  rintro e w1 ⟨rfl, hb1⟩
  obtain ⟨M, HM⟩ : ∃ M, Hid ((⟨(macL secret.data.toList (⟨#[97, 110, 110, 97, 108, 115, 32, 107, 101, 121]⟩ : ByteArray).data.toList).toArray⟩ : ByteArray) = M) := ⟨_, Lib.hid rfl⟩
  have hMs : M.size = 32 := by rw [← HM.out]; simpa [ByteArray.size] using hlen
  rw [HM.out]
  have hs1 := rsum_any (name ++ ⟨#[10, 2]⟩ ++ M) w1 (by rw [ByteArray.size_append, ByteArray.size_append, show (⟨#[10, 2]⟩ : ByteArray).size = 2 from rfl]; omega) ((unhide HT).1.below hb1 (unhide HT).1.lt) ((unhide HT).2.below hb1 (unhide HT).2.lt)
  have hsz := shaB_size (name ++ ⟨#[10, 2]⟩ ++ M)
  have H1 := hide hb1; clear hb1 hm hlen
  go_wp2_with fail
  refine hs1.mono ?_
  rintro e w2 ⟨rfl, hb2⟩
  clear hs1
  go_wp2_with fail
  go_ret
  refine ⟨ret_str ?_, (unhide H1).trans (hb2.mono (unhide H1).size)⟩
  apply ByteArray.ext
  apply Array.ext'
  rw [extract_list _ _ _ (by rw [hsz]; decide)]
  simp only [keyIDL, shaB, List.drop_zero, Nat.sub_zero, ByteArray.data_append, Array.toList_append, ← HM.out, hkw.out]
end Go.Proofs.YtfhaoamlagnpjaaDoor

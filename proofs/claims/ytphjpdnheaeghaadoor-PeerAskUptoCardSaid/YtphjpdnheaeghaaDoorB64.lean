/-
  CONTRACTS of package text and of the document's answer for it: base64 is written.
-/
import Derived.Test.YtphjpdnheaeghaaDoorRows
import Derived.Test.YtphjpdnheaeghaaDoorWd
import Derived.Test.YtphjpdnheaeghaaDoorBytes
import Derived.Test.YtphjpdnheaeghaaDoorDec
import Derived.Test.YtphjpdnheaeghaaDoorCopyStr
import Derived.StillTailTactics
import Derived.Deep.RegionHeld3
set_option linter.unusedVariables false
set_option linter.unusedSimpArgs false
namespace Go.Proofs.YtphjpdnheaeghaaDoor
open Go.RowKit Go.Lib
/-- The sixty-four signs. -/
def signsS : ByteArray := ⟨#[65, 66, 67, 68, 69, 70, 71, 72, 73, 74, 75, 76, 77, 78, 79, 80, 81, 82, 83, 84, 85, 86, 87, 88, 89, 90, 97, 98, 99, 100, 101, 102, 103, 104, 105, 106, 107, 108, 109, 110, 111, 112, 113, 114, 115, 116, 117, 118, 119, 120, 121, 122, 48, 49, 50, 51, 52, 53, 54, 55, 56, 57, 43, 47]⟩
def sgn (v : Nat) : UInt8 := signsS.data.getD v 0
/-- Three bytes as a number, those that lack as 0. -/
def val3 (l : List UInt8) : Nat := (l.getD 0 0).toNat * 65536 + (l.getD 1 0).toNat * 256 + (l.getD 2 0).toNat
def put4 (v n : Nat) (i : Nat) : UInt8 := if n < i then 61 else sgn (v / 2 ^ (18 - 6 * i) % 64)
def four (l : List UInt8) : List UInt8 := (List.range 4).map (put4 (val3 l) (min 3 l.length))
def b64L (l : List UInt8) : List UInt8 :=
  match l with
  | [] => []
  | a :: r => four (a :: r) ++ b64L ((a :: r).drop 3)
termination_by l.length
decreasing_by simp; omega
theorem b64L_nil : b64L [] = [] := by rw [b64L]
theorem b64L_cons {l : List UInt8} (h : l ≠ []) : b64L l = four l ++ b64L (l.drop 3) := by
  cases l with
  | nil => exact absurd rfl h
  | cons a r => rw [b64L]
set_option maxRecDepth 100000 in
theorem b64L_length (l : List UInt8) : (b64L l).length = (l.length + 2) / 3 * 4 := by
  induction h : l.length using Nat.strongRecOn generalizing l with
  | _ n ih =>
    cases l with
    | nil => subst h; rw [b64L_nil]; rfl
    | cons a r =>
      rw [b64L_cons (by simp), List.length_append, ih _ (by simp at h ⊢; omega) ((a :: r).drop 3) rfl]
      have h4 : (four (a :: r)).length = 4 := by unfold four; rw [List.length_map, List.length_range]
      rw [h4, ← h]
      simp only [List.length_cons, List.length_drop]
      omega
def b64S (s : ByteArray) : ByteArray := ⟨(b64L s.data.toList).toArray⟩
theorem b64S_size (s : ByteArray) : (b64S s).size = (s.size + 2) / 3 * 4 := by
  have := b64L_length s.data.toList
  show (b64L s.data.toList).toArray.size = _
  rw [List.size_toArray, this]
  rfl
/-- make([]byte, 0, c). -/
theorem make_bytes (c : Nat) (hc : c ≤ 140737488355328) (w : World) : ∃ o, (Instr.makeSlice 38 (.int .i64 0) (.int .i64 (c : Int))).run Tryd.prog w = .ok (.slice (some ⟨w.heap.size, 0, none⟩) 0 c) (w.alloc o) ∧ ∀ base, base ≤ w.heap.size → OwnB (w.alloc o) base (.slice (some ⟨w.heap.size, 0, none⟩) 0 c) [] := by
  obtain ⟨i0, hi, hz0, hz1, hz2⟩ := info_parts byteInfo
  have h := run_make_rowN 38 5 i0 (.int .u8 0) Tryd.underlying38 hi hz0 .i64 .i64 0 c (by omega) (by rw [hz2]; omega) (by omega) w
  refine ⟨_, h, fun base hb => .inr ⟨w.heap.size, c, _, (0, 0), rfl, hb, heap_alloc_new w _, .inl rfl, by simp, by simp only [maxLen]; omega, ?_, by simp [byteCells]⟩⟩
  rw [hz1, Nat.mul_one]
  simp [madeCells]
theorem copy3 (x : ByteArray) (n : Nat) (hn : n = min x.size 3) : (List.take 0 [Value.int .u8 0, .int .u8 0, .int .u8 0] ++ byteCells (List.take n x.data.toList) ++ List.drop (0 + n) [Value.int .u8 0, .int .u8 0, .int .u8 0]) =
    [.int .u8 ((x.data.toList.getD 0 0).toNat : Int), .int .u8 ((x.data.toList.getD 1 0).toNat : Int), .int .u8 ((x.data.toList.getD 2 0).toNat : Int)] := by
  have hl : x.data.toList.length = x.size := by simp
  generalize x.data.toList = l at *
  match l, hl with
  | [], hl => simp at hl; subst hn; rw [← hl]; rfl
  | [a], hl => simp at hl; subst hn; rw [← hl]; rfl
  | [a, b], hl => simp at hl; subst hn; rw [← hl]; rfl
  | a :: b :: c :: r, hl =>
    have : n = 3 := by simp at hl; omega
    subst this
    rfl
set_option maxRecDepth 100000 in
theorem or3 (t0 t1 t2 : UInt8) : bits .or .i64 (bits .or .i64 ((t0.toNat : Int) * 65536) ((t1.toNat : Int) * 256)) (t2.toNat : Int) = ((t0.toNat * 65536 + t1.toNat * 256 + t2.toNat : Nat) : Int) := by
  have h0 := t0.toNat_lt
  have h1 := t1.toNat_lt
  have h2 := t2.toNat_lt
  have e1 : t0.toNat * 65536 ||| t1.toNat * 256 = t0.toNat * 65536 + t1.toNat * 256 := by
    have := Nat.shiftLeft_add_eq_or_of_lt (b := t1.toNat * 256) (i := 16) (by omega) t0.toNat
    rw [Nat.shiftLeft_eq] at this
    exact this.symm
  have e2 : (t0.toNat * 65536 + t1.toNat * 256) ||| t2.toNat = t0.toNat * 65536 + t1.toNat * 256 + t2.toNat := by
    have := Nat.shiftLeft_add_eq_or_of_lt (b := t2.toNat) (i := 8) (by omega) (t0.toNat * 256 + t1.toNat)
    rw [Nat.shiftLeft_eq] at this
    rw [show t0.toNat * 65536 + t1.toNat * 256 = (t0.toNat * 256 + t1.toNat) * 2 ^ 8 from by omega]
    exact this.symm
  have a := i64_or_nat (t0.toNat * 65536) (t1.toNat * 256) (by omega) (by omega)
  rw [e1] at a
  have b := i64_or_nat (t0.toNat * 65536 + t1.toNat * 256) t2.toNat (by omega) (by omega)
  rw [e2] at b
  rw [show ((t0.toNat : Int) * 65536) = ((t0.toNat * 65536 : Nat) : Int) from by omega, show ((t1.toNat : Int) * 256) = ((t1.toNat * 256 : Nat) : Int) from by omega, a, b]
/-- A sign out of a string, its index known to lie inside. -/
theorem wpList_index_str {ops : Array Oper} {rest : List Oper} {o : Oper} {a : Act} {Q : Exit → Act → World → Prop} {w : World} (hgd : o.guard = none) (x y : Operand) (ho : o.op = .index 9 x y)
    (s : ByteArray) (k : Nat) (z : Int) (hx : a.eval x = .string s) (hy : a.eval y = .int .i64 z) (hz : z = (k : Int)) (c : UInt8) (hk : s.data[k]? = some c)
    (h : wpList Tryd.prog ops Q rest (a.put o.dst (.int .u8 (c.toNat : Int))) w) : wpList Tryd.prog ops Q (o :: rest) a w := by
  refine wpList_plain hgd fun _ hK => ?_
  subst hz
  obtain ⟨hlt, hc⟩ := Array.getElem?_eq_some_iff.1 hk
  have hlt' : k < s.size := hlt
  have hr : (Instr.index 9 (.string s) (.int .i64 (k : Int))).run Tryd.prog w = .ok (.int .u8 (c.toNat : Int)) w := by
    rw [run_index_string w 9 s .i64 (k : Int) Tryd.underlying9, dif_pos (by omega)]
    have e : s[((k : Int)).toNat]'(by omega) = c := by
      simp only [Int.toNat_natCast]
      rw [ByteArray.getElem_eq_getElem_data]
      exact hc
    rw [e]
  unfold Oper.wp execOp
  simp only [ho, hx, hy, hr, Sem.run_bind, Sem.run_pure, Result.andThen_ok]
  exact hK _ _ h
theorem sgn_at (k : Nat) (h : k < 64) : signsS.data[k]? = some (sgn k) := by
  have hs : signsS.data.size = 64 := rfl
  rw [Array.getElem?_eq_getElem (by omega)]
  unfold sgn
  rw [Array.getD_eq_getD_getElem?, Array.getElem?_eq_getElem (by omega)]
  rfl
theorem and63 (v : Nat) (hv : v < 16777216) (m : Nat) : bits .and .i64 ((v : Int) / 2 ^ (18 - 6 * m)) 63 = ((v / 2 ^ (18 - 6 * m) % 64 : Nat) : Int) := by
  have hle : v / 2 ^ (18 - 6 * m) ≤ v := Nat.div_le_self _ _
  have h := i64_and_nat (v / 2 ^ (18 - 6 * m)) 63 (by omega) (by omega)
  rw [show (63 : Nat) = 2 ^ 6 - 1 from rfl, Nat.and_two_pow_sub_one_eq_mod] at h
  rw [show ((v / 2 ^ (18 - 6 * m) : Nat) : Int) = (v : Int) / 2 ^ (18 - 6 * m) from by simp] at h
  exact h
set_option maxRecDepth 100000 in
set_option maxHeartbeats 1000000 in
theorem b64_any (s : ByteArray) (w : World) (hs : s.size ≤ 35184372088832) :
    Calls Tryd.prog 13 #[.string s] w fun e w' => e = .returned (.string (b64S s)) ∧ Below w.heap.size w w' := by
  obtain ⟨o, hmk, hown⟩ := make_bytes ((s.size + 2) / 3 * 4) (by omega) w
  rw [show (((s.size + 2) / 3 * 4 : Nat) : Int) = ((s.size : Int) + 2) / 3 * 4 from by omega] at hmk
  have Hown := hide hown; clear hown
  go_enter Tryd.func13, Tryd.ntmps13
  go_wp2_with fail
  clear hmk
  go_loopw [0, 3] (fun a b wr => ∃ (x : ByteArray) (acc : List UInt8), a = .string x ∧ x.size ≤ s.size ∧ acc.length + (b64L x.data.toList).length ≤ 140737488355328 ∧ Hid (acc ++ b64L x.data.toList = b64L s.data.toList) ∧ OwnB wr w.heap.size b acc ∧ Below w.heap.size w wr) (fun a _ _ => strSize a)
  case atStart => exact ⟨s, [], rfl, Nat.le_refl _, by rw [b64L_length]; simp; omega, Lib.hid rfl, unhide Hown _ (Nat.le_refl _), (Below.refl _ _).alloc (Nat.le_refl _) _⟩
  case round =>
    clear Hown
    obtain ⟨x, acc, rfl, hxs, hal, hacc, hO, hb⟩ := hrel
    have Hx := hide (And.intro hacc (And.intro hO (And.intro hb hal))); clear hacc hO hb hal
    rcases Nat.eq_zero_or_pos x.size with h0 | h0
    · obtain ⟨hacc, hO, hb, hal⟩ := unhide Hx
      have hcv := conv_own hO
      have hxe : x.data.toList = [] := List.eq_nil_of_length_eq_zero (by rw [Array.length_toList]; exact h0)
      have hy := hide (And.intro hxe hb)
      clear hO hb hal hacc hxe
      go_wp2_with fail
      go_ret
      obtain ⟨hxe, hb⟩ := unhide hy
      have hacc := (unhide Hx).1.out
      rw [hxe, b64L_nil, List.append_nil] at hacc
      exact ⟨ret_str (by unfold b64S; rw [hacc]), hb⟩
    · obtain ⟨n, hn⟩ : ∃ n, n = min x.size 3 := ⟨_, rfl⟩
      have hnx : n ≤ x.size := by omega
      have hn3 : n ≤ 3 := by omega
      have hN := Lib.hid hn; clear hn
      have hor : ∀ t0 t1 t2 : UInt8, bits .or .i64 (bits .or .i64 ((t0.toNat : Int) * 65536) ((t1.toNat : Int) * 256)) (t2.toNat : Int) = ((t0.toNat * 65536 + t1.toNat * 256 + t2.toNat : Nat) : Int) := or3
      go_wp2_with (first | (refine wpList_copy_str _ rfl (.tmp 22) (.tmp 23) rfl (Blk.new _ _ _) 0 3 3 x rfl rfl n hN.out (by simp; omega) ?_; intro w1 hB1 hg1 hz1; have hB1' := hB1; rw [copy3 x n hN.out] at hB1'; have c0 := hB1'.cell 0; have c1 := hB1'.cell 1; have c2 := hB1'.cell 2; simp only [List.getElem?_toArray, List.getElem?_cons_zero, List.getElem?_cons_succ] at c0 c1 c2; generalize ht0 : x.data.toList.getD 0 0 = t0 at c0; generalize ht1 : x.data.toList.getD 1 0 = t1 at c1; generalize ht2 : x.data.toList.getD 2 0 = t2 at c2; have hb0 : (t0.toNat : Int) < 256 := by { have := t0.toNat_lt; omega }; have hb1 : (t1.toNat : Int) < 256 := by { have := t1.toNat_lt; omega }; have hb2 : (t2.toNat : Int) < 256 := by { have := t2.toNat_lt; omega }; have Ht := hide (And.intro ht0 (And.intro ht1 ht2)); clear ht0 ht1 ht2; have H1 := hide (And.intro hB1 (And.intro hg1 hz1)); clear hB1 hg1 hz1 hB1'))
      obtain ⟨v, hv⟩ : ∃ v : Nat, Hid (t0.toNat * 65536 + t1.toNat * 256 + t2.toNat = v) := ⟨_, Lib.hid rfl⟩
      have hvv : ((t0.toNat : Int) * 65536 + (t1.toNat : Int) * 256 + (t2.toNat : Int)) = (v : Int) := by rw [← hv.out]; omega
      have hv24 : (v : Int) < 16777216 := by omega
      rw [hvv]
      clear hor hvv c0 c1 c2
      have hacl : acc.length + 4 ≤ 140737488355328 := by
        have h := (unhide Hx).2.2.2
        rw [b64L_length] at h
        simp at h
        omega
      have hand := and63 v (by omega)
      go_loopw [3, 7] (fun b i wz => ∃ m : Nat, m ≤ 4 ∧ i = .int .i64 m ∧ OwnB wz w.heap.size b (acc ++ (List.range m).map (put4 v n)) ∧ Below w.heap.size w wz) (fun _ i _ => 4 - (intOf i).toNat)
      case atStart =>
        obtain ⟨hacc, hO, hb, hal⟩ := unhide Hx
        have hne : u3.ownBlock ≠ some wr.heap.size := fun e => by
          have := (hO.lt _ e).2
          omega
        refine ⟨0, by omega, rfl, ?_, (hb.alloc hb.size _).grown (unhide H1).2.1 (by have := hb.size; simp; omega) (fun k hk => by cases hk; exact hb.size)⟩
        rw [show (List.range 0).map (put4 v n) = [] from rfl, List.append_nil]
        refine (hO.alloc _).kept (unhide H1).2.1 ?_
        cases h : u3.ownBlock with
        | none => exact .inl rfl
        | some k => exact .inr (by rw [← h]; exact hne)
      case round =>
        obtain ⟨m, hm, rfl, hO, hb⟩ := hrel
        have Hy := hide (And.intro hO hb); clear hO hb
        rcases Nat.lt_or_ge m 4 with hm4 | hm4
        · have hlen : (acc ++ (List.range m).map (put4 v n)).length + 1 ≤ 140737488355328 := by simp; omega
          rcases Nat.lt_or_ge n m with hnm | hnm
          · clear hand hb0 hb1 hb2 hv24
            go_wp2_with (first | (at_builtin; refine wpList_app1 wr rfl (.tmp 45) (.tmp 46) rfl (unhide Hy).1 rfl rfl (by omega) (by omega) hlen (unhide Hy).2.size ?_; intro v' w' hO' hg hat; have HO' := hide (And.intro hO' (And.intro hg hat)); clear hO' hg hat))
            go_roundw
            case rel =>
              obtain ⟨hO', hg, hat⟩ := unhide HO'
              obtain ⟨hO, hb⟩ := unhide Hy
              refine ⟨m + 1, by omega, by go_num, ?_, (hb.alloc hb.size _).grown hg (by have := hb.size; simp; omega) (fun k hk => (hO.lt k hk).1)⟩
              rw [List.range_succ, List.map_append, ← List.append_assoc]
              have e : put4 v n m = 61 := by unfold put4; rw [if_pos hnm]
              rw [List.map_cons, List.map_nil, e]
              exact hO'
            case measure => simp [intOf]; omega
          · have h18 : (0 : Int) ≤ 18 - 6 * (m : Int) := by omega
            have hand' := hand m
            rw [Int.natCast_emod, Int.natCast_ediv, Int.natCast_pow] at hand'
            have hlt64 : v / 2 ^ (18 - 6 * m) % 64 < 64 := Nat.mod_lt _ (by omega)
            have hq : Hid (put4 v n m = sgn (v / 2 ^ (18 - 6 * m) % 64)) := by unfold put4; rw [Hid, if_neg (by omega)]
            have hk := sgn_at _ hlt64
            generalize sgn (v / 2 ^ (18 - 6 * m) % 64) = c at hk hq
            have hcl := c.toNat_lt
            have hk' := hide hk
            clear hand hb0 hb1 hb2 hk hlt64 hv24 h18
            have Hcl := hide hcl
            clear hcl
            go_wp2_with (first | (refine wpList_index_str rfl _ (.tmp 54) rfl signsS (v / 2 ^ (18 - 6 * m) % 64) _ rfl rfl (by simp) c (unhide hk') ?_) | (at_builtin; refine wpList_app1 wr rfl (.tmp 48) (.tmp 56) rfl (unhide Hy).1 rfl rfl (Int.natCast_nonneg _) (by have := unhide Hcl; omega) hlen (unhide Hy).2.size ?_; intro v' w' hO' hg hat; have HO' := hide (And.intro hO' (And.intro hg hat)); clear hO' hg hat))
            go_roundw
            case rel =>
              obtain ⟨hO', hg, hat⟩ := unhide HO'
              obtain ⟨hO, hb⟩ := unhide Hy
              refine ⟨m + 1, by omega, by go_num, ?_, (hb.alloc hb.size _).grown hg (by have := hb.size; simp; omega) (fun k hk => (hO.lt k hk).1)⟩
              rw [List.range_succ, List.map_append, ← List.append_assoc]
              rw [List.map_cons, List.map_nil, hq.out]
              simpa using hO'
            case measure => simp [intOf]; omega
        · have hm4' : m = 4 := by omega
          have Hm := Lib.hid hm4'
          clear hm4' hand hb0 hb1 hb2 hv24
          go_wp2_with fail
          obtain ⟨hO, hb⟩ := unhide Hy
          obtain ⟨hacc, -, -, hal⟩ := unhide Hx
          have hN' := hN.out
          have en : (if ((x.size : Nat) : Int) < 3 then ((x.size : Nat) : Int) else 3).toNat = n := by split <;> omega
          have hll : x.data.toList.length = x.size := Array.length_toList
          have hxl : (x.extract n x.size).data.toList = x.data.toList.drop 3 := by
            rw [bytes_extract _ _ _ (Nat.le_refl _), List.take_of_length_le (by simp)]
            rcases Nat.lt_or_ge x.size 3 with h3 | h3
            · rw [List.drop_eq_nil_of_le (by omega), List.drop_eq_nil_of_le (by omega)]
            · rw [show n = 3 from by omega]
          have hne : x.data.toList ≠ [] := fun e => by rw [e] at hll; simp at hll; omega
          have hf : four x.data.toList = (List.range 4).map (put4 v n) := by
            obtain ⟨e0, e1, e2⟩ := unhide Ht
            unfold four val3
            rw [e0, e1, e2, hv.out, hll, Nat.min_comm, ← hN']
          have hbl : b64L x.data.toList = (List.range 4).map (put4 v n) ++ b64L (x.data.toList.drop 3) := by rw [b64L_cons hne, hf]
          rw [hbl, List.length_append] at hal
          rw [en, Hm.out] at *
          refine ⟨⟨x.extract n x.size, acc ++ (List.range 4).map (put4 v n), rfl, by simp; omega, ?_, ?_, hO, hb⟩, ?_⟩
          · rw [hxl, List.length_append]; omega
          · rw [Hid, hxl, List.append_assoc, ← hbl]; exact hacc.out
          · simp [strSize]; omega
end Go.Proofs.YtphjpdnheaeghaaDoor

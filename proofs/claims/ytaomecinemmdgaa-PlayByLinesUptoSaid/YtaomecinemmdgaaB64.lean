/-
  CONTRACTS of package text and of the document's answer for it: base64 is written.
-/
import Derived.Test.YtaomecinemmdgaaRows
import Derived.Test.YtaomecinemmdgaaWd
import Derived.Test.YtaomecinemmdgaaBytes
import Derived.Test.YtaomecinemmdgaaDec
import Derived.Test.YtaomecinemmdgaaCopyStr
import Derived.StillTailTactics
import Derived.Deep.RegionHeld3
set_option linter.unusedVariables false
set_option linter.unusedSimpArgs false
namespace Go.Proofs.Ytaomecinemmdgaa
open Go.RowKit Go.Lib
/-- The sixty-four signs. -/
def signsS : ByteArray := ⟨#[65, 66, 67, 68, 69, 70, 71, 72, 73, 74, 75, 76, 77, 78, 79, 80, 81, 82, 83, 84, 85, 86, 87, 88, 89, 90, 97, 98, 99, 100, 101, 102, 103, 104, 105, 106, 107, 108, 109, 110, 111, 112, 113, 114, 115, 116, 117, 118, 119, 120, 121, 122, 48, 49, 50, 51, 52, 53, 54, 55, 56, 57, 43, 47]⟩
def sgn (v : Nat) : UInt8 := signsS.data.getD v 0
/-- Three bytes as a number, those that lack as 0. -/
def val3 (l : List UInt8) : Nat := (l.getD 0 0).toNat * 65536 + (l.getD 1 0).toNat * 256 + (l.getD 2 0).toNat
def put4 (v n : Nat) (i : Nat) : UInt8 := if n < i then 61 else sgn (v / 2 ^ (18 - 6 * i) % 64)
def four (l : List UInt8) : List UInt8 := (List.range 4).map (put4 (val3 l) (min 3 l.length))
def b64L (l : List UInt8) : List UInt8 :=
  match l with
  | [] => []
  | a :: r => four (a :: r) ++ b64L ((a :: r).drop 3)
termination_by l.length
decreasing_by simp; omega
theorem b64L_nil : b64L [] = [] := by rw [b64L]
theorem b64L_cons {l : List UInt8} (h : l ≠ []) : b64L l = four l ++ b64L (l.drop 3) := by
  cases l with
  | nil => exact absurd rfl h
  | cons a r => rw [b64L]
set_option maxRecDepth 100000 in
theorem b64L_length (l : List UInt8) : (b64L l).length = (l.length + 2) / 3 * 4 := by
  induction h : l.length using Nat.strongRecOn generalizing l with
  | _ n ih =>
    cases l with
    | nil => subst h; rw [b64L_nil]; rfl
    | cons a r =>
      rw [b64L_cons (by simp), List.length_append, ih _ (by simp at h ⊢; omega) ((a :: r).drop 3) rfl]
      have h4 : (four (a :: r)).length = 4 := by unfold four; rw [List.length_map, List.length_range]
      rw [h4, ← h]
      simp only [List.length_cons, List.length_drop]
      omega
def b64S (s : ByteArray) : ByteArray := ⟨(b64L s.data.toList).toArray⟩
theorem b64S_size (s : ByteArray) : (b64S s).size = (s.size + 2) / 3 * 4 := by
  have := b64L_length s.data.toList
  show (b64L s.data.toList).toArray.size = _
  rw [List.size_toArray, this]
  rfl
/-- make([]byte, 0, c). -/
theorem make_bytes (c : Nat) (hc : c ≤ 140737488355328) (w : World) : ∃ o, (Instr.makeSlice 56 (.int .i64 0) (.int .i64 (c : Int))).run Try.prog w = .ok (.slice (some ⟨w.heap.size, 0, none⟩) 0 c) (w.alloc o) ∧ ∀ base, base ≤ w.heap.size → OwnB (w.alloc o) base (.slice (some ⟨w.heap.size, 0, none⟩) 0 c) [] := by
  obtain ⟨i0, hi, hz0, hz1, hz2⟩ := info_parts byteInfo
  have h := run_make_rowN 56 5 i0 (.int .u8 0) Try.underlying56 hi hz0 .i64 .i64 0 c (by omega) (by rw [hz2]; omega) (by omega) w
  refine ⟨_, h, fun base hb => .inr ⟨w.heap.size, c, _, (0, 0), rfl, hb, heap_alloc_new w _, .inl rfl, by simp, by simp only [maxLen]; omega, ?_, by simp [byteCells]⟩⟩
  rw [hz1, Nat.mul_one]
  simp [madeCells]
theorem copy3 (x : ByteArray) (n : Nat) (hn : n = min x.size 3) : (List.take 0 [Value.int .u8 0, .int .u8 0, .int .u8 0] ++ byteCells (List.take n x.data.toList) ++ List.drop (0 + n) [Value.int .u8 0, .int .u8 0, .int .u8 0]) =
    [.int .u8 ((x.data.toList.getD 0 0).toNat : Int), .int .u8 ((x.data.toList.getD 1 0).toNat : Int), .int .u8 ((x.data.toList.getD 2 0).toNat : Int)] := by
  have hl : x.data.toList.length = x.size := by simp
  generalize x.data.toList = l at *
  match l, hl with
  | [], hl => simp at hl; subst hn; rw [← hl]; rfl
  | [a], hl => simp at hl; subst hn; rw [← hl]; rfl
  | [a, b], hl => simp at hl; subst hn; rw [← hl]; rfl
  | a :: b :: c :: r, hl =>
    have : n = 3 := by simp at hl; omega
    subst this
    rfl
set_option maxRecDepth 100000 in
theorem or3 (t0 t1 t2 : UInt8) : bits .or .i64 (bits .or .i64 ((t0.toNat : Int) * 65536) ((t1.toNat : Int) * 256)) (t2.toNat : Int) = ((t0.toNat * 65536 + t1.toNat * 256 + t2.toNat : Nat) : Int) := by
  have h0 := t0.toNat_lt
  have h1 := t1.toNat_lt
  have h2 := t2.toNat_lt
  have e1 : t0.toNat * 65536 ||| t1.toNat * 256 = t0.toNat * 65536 + t1.toNat * 256 := by
    have := Nat.shiftLeft_add_eq_or_of_lt (b := t1.toNat * 256) (i := 16) (by omega) t0.toNat
    rw [Nat.shiftLeft_eq] at this
    exact this.symm
  have e2 : (t0.toNat * 65536 + t1.toNat * 256) ||| t2.toNat = t0.toNat * 65536 + t1.toNat * 256 + t2.toNat := by
    have := Nat.shiftLeft_add_eq_or_of_lt (b := t2.toNat) (i := 8) (by omega) (t0.toNat * 256 + t1.toNat)
    rw [Nat.shiftLeft_eq] at this
    rw [show t0.toNat * 65536 + t1.toNat * 256 = (t0.toNat * 256 + t1.toNat) * 2 ^ 8 from by omega]
    exact this.symm
  have a := i64_or_nat (t0.toNat * 65536) (t1.toNat * 256) (by omega) (by omega)
  rw [e1] at a
  have b := i64_or_nat (t0.toNat * 65536 + t1.toNat * 256) t2.toNat (by omega) (by omega)
  rw [e2] at b
  rw [show ((t0.toNat : Int) * 65536) = ((t0.toNat * 65536 : Nat) : Int) from by omega, show ((t1.toNat : Int) * 256) = ((t1.toNat * 256 : Nat) : Int) from by omega, a, b]
/-- A sign out of a string, its index known to lie inside. -/
theorem wpList_index_str {ops : Array Oper} {rest : List Oper} {o : Oper} {a : Act} {Q : Exit → Act → World → Prop} {w : World} (hgd : o.guard = none) (x y : Operand) (ho : o.op = .index 9 x y)
    (s : ByteArray) (k : Nat) (z : Int) (hx : a.eval x = .string s) (hy : a.eval y = .int .i64 z) (hz : z = (k : Int)) (c : UInt8) (hk : s.data[k]? = some c)
    (h : wpList Try.prog ops Q rest (a.put o.dst (.int .u8 (c.toNat : Int))) w) : wpList Try.prog ops Q (o :: rest) a w := by
  refine wpList_plain hgd fun _ hK => ?_
  subst hz
  obtain ⟨hlt, hc⟩ := Array.getElem?_eq_some_iff.1 hk
  have hlt' : k < s.size := hlt
  have hr : (Instr.index 9 (.string s) (.int .i64 (k : Int))).run Try.prog w = .ok (.int .u8 (c.toNat : Int)) w := by
    rw [run_index_string w 9 s .i64 (k : Int) Try.underlying9, dif_pos (by omega)]
    have e : s[((k : Int)).toNat]'(by omega) = c := by
      simp only [Int.toNat_natCast]
      rw [ByteArray.getElem_eq_getElem_data]
      exact hc
    rw [e]
  unfold Oper.wp execOp
  simp only [ho, hx, hy, hr, Sem.run_bind, Sem.run_pure, Result.andThen_ok]
  exact hK _ _ h
theorem sgn_at (k : Nat) (h : k < 64) : signsS.data[k]? = some (sgn k) := by
  have hs : signsS.data.size = 64 := rfl
  rw [Array.getElem?_eq_getElem (by omega)]
  unfold sgn
  rw [Array.getD_eq_getD_getElem?, Array.getElem?_eq_getElem (by omega)]
  rfl
theorem and63 (v : Nat) (hv : v < 16777216) (m : Nat) : bits .and .i64 ((v : Int) / 2 ^ (18 - 6 * m)) 63 = ((v / 2 ^ (18 - 6 * m) % 64 : Nat) : Int) := by
  have hle : v / 2 ^ (18 - 6 * m) ≤ v := Nat.div_le_self _ _
  have h := i64_and_nat (v / 2 ^ (18 - 6 * m)) 63 (by omega) (by omega)
  rw [show (63 : Nat) = 2 ^ 6 - 1 from rfl, Nat.and_two_pow_sub_one_eq_mod] at h
  rw [show ((v / 2 ^ (18 - 6 * m) : Nat) : Int) = (v : Int) / 2 ^ (18 - 6 * m) from by simp] at h
  exact h
end Go.Proofs.Ytaomecinemmdgaa

/-
  WORDS: copy from a string into an array of bytes.
-/
import Derived.Test.YtphjpdnheaeghaaDoorRows
import Derived.Test.YtphjpdnheaeghaaDoorWd
import Derived.Test.YtphjpdnheaeghaaDoorBytes
set_option linter.unusedVariables false
set_option linter.unusedSimpArgs false
namespace Go.Proofs.YtphjpdnheaeghaaDoor
open Go.RowKit Go.Lib
theorem run_copy_str (w : World) (ty : TypeId) (g off dLen dCap : Nat) (s : ByteArray) (T : TypeId) (cur : Array Value) (hB : Blk w g T cur) (n : Nat) (hn : n = min s.size dLen) (hfit : off + n ≤ cur.size) :
    (Builtin.copy_ #[38, 9] ty #[.slice (some ⟨g, off, none⟩) dLen dCap, .string s]).run Tryd.prog w = .ok (.int .i64 n) (w.setRow g (cur.toList.take off ++ byteCells (s.data.toList.take n) ++ cur.toList.drop (off + n)).toArray) := by
  obtain ⟨i, hi, hz, hs1, hb1⟩ := info_parts byteInfo
  have hmin : Nat.min s.size dLen = n := hn.symm
  have hl : (byteCells (s.data.toList.take n)).length = n := by rw [byteCells_length, List.length_take]; simp; omega
  have hst := run_storeCells_at Tryd.prog g off T (byteCells (s.data.toList.take n)) 0 cur w hB (by rw [hl]; simpa using hfit) (bytes_one _)
  have hf : (Builtin.firstCells 1 n (.string s)).run Tryd.prog w = .ok (byteCells (s.data.toList.take n)).toArray w := by
    simp [Builtin.firstCells, byteCells, ByteArray.extract, ByteArray.copySlice]
    apply Array.ext'
    simp
  simp only [Nat.add_zero, hl] at hst
  simp [Builtin.copy_, run_underlying Tryd.underlying38, Builtin.lenOf, sizeOf, typeInfo, hi, hs1, hmin, hf, hst]
  rfl
theorem wpList_copy_str {ops : Array Oper} {rest : List Oper} {o : Oper} {a : Act} {Q : Exit → Act → World → Prop} (w : World) (hgd : o.guard = none) (d s : Operand)
    (ho : o.op = .call { callee := .builtin .copy, args := #[d, s], argTypes := #[38, 9] }) {T : TypeId} {cur : Array Value} {g : Nat} (hB : Blk w g T cur) (off dLen dCap : Nat) (st : ByteArray) (hd : a.eval d = .slice (some ⟨g, off, none⟩) dLen dCap) (hs : a.eval s = .string st)
    (n : Nat) (hn : n = min st.size dLen) (hfit : off + n ≤ cur.size)
    (h : ∀ w', Blk w' g T (cur.toList.take off ++ byteCells (st.data.toList.take n) ++ cur.toList.drop (off + n)).toArray → w.grownBy w' (some g) → w'.heap.size = w.heap.size → wpList Tryd.prog ops Q rest (a.put o.dst (.int .i64 n)) w') : wpList Tryd.prog ops Q (o :: rest) a w := by
  refine wpList_plain hgd fun _ hK => ?_
  have hr := run_copy_str w o.type g off dLen dCap st T cur hB n hn hfit
  unfold Oper.wp execOp
  simp only [ho, resolve, invoke, builtin, Sem.run_bind, Sem.run_pure, Result.andThen_ok, List.map_toArray, List.map_cons, List.map_nil, hd, hs, hr]
  exact hK _ _ (h _ (setRow_heap w g _ _ _ _ hB) ⟨rfl, rfl, rfl, by simp, fun k _ hk => setRow_other w g k _ (fun e => hk (by rw [e]))⟩ (by simp))
def strSize : Value → Nat
  | .string s => s.size
  | _ => 0
theorem bytes_extract (s : ByteArray) (a b : Nat) (h : b ≤ s.size) : (s.extract a b).data.toList = (s.data.toList.drop a).take (b - a) := by
  simp [ByteArray.extract, ByteArray.copySlice]
end Go.Proofs.YtphjpdnheaeghaaDoor

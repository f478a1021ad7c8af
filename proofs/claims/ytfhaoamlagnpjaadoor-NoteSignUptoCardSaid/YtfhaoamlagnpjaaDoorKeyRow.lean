/-
  WORDS on keys: to be read out of a slice, and what note.Sign answers.
-/
import Derived.Test.YtfhaoamlagnpjaaDoorRows
import Derived.Test.YtfhaoamlagnpjaaDoorWd
import Derived.Test.YtfhaoamlagnpjaaDoorGoes
import Derived.Test.YtfhaoamlagnpjaaDoorAmong
import Derived.Test.YtfhaoamlagnpjaaDoorSignature
import Derived.Test.YtfhaoamlagnpjaaDoorWritten
set_option linter.unusedVariables false
set_option linter.unusedSimpArgs false
namespace Go.Proofs.YtfhaoamlagnpjaaDoor
open Go.RowKit Go.Lib
/-- A key. -/
structure KeyR where
  nm : ByteArray
  sc : ByteArray
def keyV (k : KeyR) : Value := .agg #[.string k.nm, .string k.sc]
/-- A slice of keys, to be read. -/
def KeysAt (w : World) (v : Value) (ks : List KeyR) : Prop :=
  ∃ A c, v = .slice A ks.length c ∧ ∀ j (h : j < ks.length), ∃ a, A = some a ∧ w.cell? (a.add (j * 2)) = some (.string ks[j].nm) ∧ w.cell? (a.add (j * 2 + 1)) = some (.string ks[j].sc)
theorem KeysAt.keep {w w' : World} {v : Value} {ks : List KeyR} (h : KeysAt w v ks) (hk : ∀ p : Addr, p.block < w.heap.size → w'.cell? p = w.cell? p) : KeysAt w' v ks := by
  obtain ⟨A, c, rfl, hc⟩ := h
  refine ⟨A, c, rfl, fun j hj => ?_⟩
  obtain ⟨a, rfl, h1, h2⟩ := hc j hj
  exact ⟨a, rfl, (hk _ (World.block_lt_of_cell? w _ h1)).trans h1, (hk _ (World.block_lt_of_cell? w _ h2)).trans h2⟩
theorem KeysAt.below {w w' : World} {v : Value} {ks : List KeyR} (h : KeysAt w v ks) (hb : Below w.heap.size w w') : KeysAt w' v ks := h.keep fun p hp => hb.cell hp
theorem KeysAt.alloc {w : World} {v : Value} {ks : List KeyR} (h : KeysAt w v ks) (o : Obj) : KeysAt (w.alloc o) v ks := h.keep fun p hp => World.cell?_alloc_lt w o p hp
theorem KeysAt.drew {w : World} {v : Value} {ks : List KeyR} (h : KeysAt w v ks) : KeysAt w.drew v ks := h
def keySig (t : ByteArray) (k : KeyR) : SigR := sigOf k.nm k.sc t
/-- The keys one after the other. -/
def signR (t : ByteArray) : List KeyR → List SigR → Value
  | [], acc => writA t acc
  | k :: r, acc => if nameOk k.nm = false then .tuple #[.string ⟨#[]⟩, .int .i64 203] else if amongV acc (keySig t k) = true then .tuple #[.string ⟨#[]⟩, .int .i64 200] else signR t r (acc ++ [keySig t k])
/-- What Sign answers. -/
def signA (t : ByteArray) (ks : List KeyR) : Value :=
  if goesV t = false then .tuple #[.string ⟨#[]⟩, .int .i64 200]
  else if ks.length = 0 then .tuple #[.string ⟨#[]⟩, .int .i64 82]
  else if 16 < ks.length then .tuple #[.string ⟨#[]⟩, .int .i64 83]
  else signR t ks []
theorem writA_form (t : ByteArray) (xs : List SigR) : ∃ (x : ByteArray) (z : Nat), writA t xs = .tuple #[.string x, .int .i64 z] ∧ z < 1000 := by
  unfold writA
  split
  · exact ⟨_, 121, rfl, by decide⟩
  · exact ⟨_, 0, rfl, by decide⟩
theorem signR_form (t : ByteArray) : ∀ (ks : List KeyR) (acc : List SigR), ∃ (x : ByteArray) (z : Nat), signR t ks acc = .tuple #[.string x, .int .i64 z] ∧ z < 1000
  | [], acc => writA_form t acc
  | k :: r, acc => by
    unfold signR
    split
    · exact ⟨_, 203, rfl, by decide⟩
    · split
      · exact ⟨_, 200, rfl, by decide⟩
      · exact signR_form t r _
theorem signA_form (t : ByteArray) (ks : List KeyR) : ∃ (x : ByteArray) (z : Nat), signA t ks = .tuple #[.string x, .int .i64 z] ∧ z < 1000 := by
  unfold signA
  split
  · exact ⟨_, 200, rfl, by decide⟩
  · split
    · exact ⟨_, 82, rfl, by decide⟩
    · split
      · exact ⟨_, 83, rfl, by decide⟩
      · exact signR_form _ _ _
/-- A signature in its bounds. -/
def SigOk (x : SigR) : Prop := x.nm.size ≤ 64 ∧ x.id.size = 4 ∧ x.mc.size = 32
theorem nameOk_size {s : ByteArray} (h : nameOk s = true) : s.size ≤ 64 := by
  unfold nameOk at h
  simp at h
  exact h.1.2
theorem keySig_ok {t : ByteArray} {k : KeyR} (h : nameOk k.nm = true) : SigOk (keySig t k) := ⟨nameOk_size h, sigOf_id _ _ _, sigOf_mc _ _ _⟩
theorem sigsL_ok : ∀ xs : List SigR, (∀ x ∈ xs, SigOk x) → (sigsL xs).length ≤ xs.length * 118
  | [], _ => by simp [sigsL]
  | x :: r, h => by
    have ih := sigsL_ok r (fun y hy => h y (List.mem_cons_of_mem _ hy))
    obtain ⟨h1, h2, h3⟩ := h x (List.mem_cons_self ..)
    have hs := sigLine_size x
    rw [b64S_size, ByteArray.size_append, h2, h3] at hs
    have hl : (sigLine x).data.toList.length = (sigLine x).size := Array.length_toList
    unfold sigsL at ih ⊢
    rw [List.flatMap_cons, List.length_append, hl, List.length_cons]
    omega
/-- One key more. -/
theorem signR_step {t : ByteArray} {ks : List KeyR} {acc : List SigR} {k : Nat} (hk : k < ks.length) : signR t (ks.drop k) acc = if nameOk ks[k].nm = false then .tuple #[.string ⟨#[]⟩, .int .i64 203] else if amongV acc (keySig t ks[k]) = true then .tuple #[.string ⟨#[]⟩, .int .i64 200] else signR t (ks.drop (k + 1)) (acc ++ [keySig t ks[k]]) := by
  rw [List.drop_eq_getElem_cons hk]
  rfl
end Go.Proofs.YtfhaoamlagnpjaaDoor

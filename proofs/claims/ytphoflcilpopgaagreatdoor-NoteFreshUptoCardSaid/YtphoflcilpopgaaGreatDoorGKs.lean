/-
  Several texts in one: WORDS on keys: to be read out of a slice, and what note.Sign answers. | WORDS on rows of keys that the call itself owns. | CONTRACTS of the law's helpers on keys: keys, kept. | An argument of type []api.Key, opened.
-/
import Derived.Test.YtphoflcilpopgaaGreatDoorRows
import Derived.Laws.OwnMore
import Derived.Deep.QuietTactic
import Derived.BigQuiet
import Derived.Deep.SlicePairs
import Derived.Test.YtphoflcilpopgaaGreatDoorGBase
import Derived.Test.YtphoflcilpopgaaGreatDoorGWhl
import Derived.Test.YtphoflcilpopgaaGreatDoorGSigs
import Derived.Test.YtphoflcilpopgaaGreatDoorSSignature
import Derived.Test.YtphoflcilpopgaaGreatDoorSWritten
set_option linter.unusedVariables false
set_option linter.unusedSimpArgs false
namespace Go.Proofs.YtphoflcilpopgaaGreatDoor
open Go.RowKit Go.Lib
/-- A key. -/
structure KeyR where
  nm : ByteArray
  sc : ByteArray
def keyV (k : KeyR) : Value := .agg #[.string k.nm, .string k.sc]
/-- A slice of keys, to be read. -/
def KeysAt (w : World) (v : Value) (ks : List KeyR) : Prop :=
  ∃ A c, v = .slice A ks.length c ∧ ∀ j (h : j < ks.length), ∃ a, A = some a ∧ w.cell? (a.add (j * 2)) = some (.string ks[j].nm) ∧ w.cell? (a.add (j * 2 + 1)) = some (.string ks[j].sc)
theorem KeysAt.keep {w w' : World} {v : Value} {ks : List KeyR} (h : KeysAt w v ks) (hk : ∀ p : Addr, p.block < w.heap.size → w'.cell? p = w.cell? p) : KeysAt w' v ks := by
  obtain ⟨A, c, rfl, hc⟩ := h
  refine ⟨A, c, rfl, fun j hj => ?_⟩
  obtain ⟨a, rfl, h1, h2⟩ := hc j hj
  exact ⟨a, rfl, (hk _ (World.block_lt_of_cell? w _ h1)).trans h1, (hk _ (World.block_lt_of_cell? w _ h2)).trans h2⟩
theorem KeysAt.below {w w' : World} {v : Value} {ks : List KeyR} (h : KeysAt w v ks) (hb : Below w.heap.size w w') : KeysAt w' v ks := h.keep fun p hp => hb.cell hp
theorem KeysAt.alloc {w : World} {v : Value} {ks : List KeyR} (h : KeysAt w v ks) (o : Obj) : KeysAt (w.alloc o) v ks := h.keep fun p hp => World.cell?_alloc_lt w o p hp
theorem KeysAt.drew {w : World} {v : Value} {ks : List KeyR} (h : KeysAt w v ks) : KeysAt w.drew v ks := h
def keySig (t : ByteArray) (k : KeyR) : SigR := sigOf k.nm k.sc t
/-- The keys one after the other. -/
def signR (t : ByteArray) : List KeyR → List SigR → Value
  | [], acc => writA t acc
  | k :: r, acc => if nameOk k.nm = false then .tuple #[.string ⟨#[]⟩, .int .i64 203] else if amongV acc (keySig t k) = true then .tuple #[.string ⟨#[]⟩, .int .i64 200] else signR t r (acc ++ [keySig t k])
/-- What Sign answers. -/
def signA (t : ByteArray) (ks : List KeyR) : Value :=
  if goesV t = false then .tuple #[.string ⟨#[]⟩, .int .i64 200]
  else if ks.length = 0 then .tuple #[.string ⟨#[]⟩, .int .i64 82]
  else if 16 < ks.length then .tuple #[.string ⟨#[]⟩, .int .i64 83]
  else signR t ks []
theorem writA_form (t : ByteArray) (xs : List SigR) : ∃ (x : ByteArray) (z : Nat), writA t xs = .tuple #[.string x, .int .i64 z] ∧ z < 1000 := by
  unfold writA
  split
  · exact ⟨_, 121, rfl, by decide⟩
  · exact ⟨_, 0, rfl, by decide⟩
theorem signR_form (t : ByteArray) : ∀ (ks : List KeyR) (acc : List SigR), ∃ (x : ByteArray) (z : Nat), signR t ks acc = .tuple #[.string x, .int .i64 z] ∧ z < 1000
  | [], acc => writA_form t acc
  | k :: r, acc => by
    unfold signR
    split
    · exact ⟨_, 203, rfl, by decide⟩
    · split
      · exact ⟨_, 200, rfl, by decide⟩
      · exact signR_form t r _
theorem signA_form (t : ByteArray) (ks : List KeyR) : ∃ (x : ByteArray) (z : Nat), signA t ks = .tuple #[.string x, .int .i64 z] ∧ z < 1000 := by
  unfold signA
  split
  · exact ⟨_, 200, rfl, by decide⟩
  · split
    · exact ⟨_, 82, rfl, by decide⟩
    · split
      · exact ⟨_, 83, rfl, by decide⟩
      · exact signR_form _ _ _
/-- A signature in its bounds. -/
def SigOk (x : SigR) : Prop := x.nm.size ≤ 64 ∧ x.id.size = 4 ∧ x.mc.size = 32
theorem nameOk_size {s : ByteArray} (h : nameOk s = true) : s.size ≤ 64 := by
  unfold nameOk at h
  simp at h
  exact h.1.2
theorem keySig_ok {t : ByteArray} {k : KeyR} (h : nameOk k.nm = true) : SigOk (keySig t k) := ⟨nameOk_size h, sigOf_id _ _ _, sigOf_mc _ _ _⟩
theorem sigsL_ok : ∀ xs : List SigR, (∀ x ∈ xs, SigOk x) → (sigsL xs).length ≤ xs.length * 118
  | [], _ => by simp [sigsL]
  | x :: r, h => by
    have ih := sigsL_ok r (fun y hy => h y (List.mem_cons_of_mem _ hy))
    obtain ⟨h1, h2, h3⟩ := h x (List.mem_cons_self ..)
    have hs := sigLine_size x
    rw [b64S_size, ByteArray.size_append, h2, h3] at hs
    have hl : (sigLine x).data.toList.length = (sigLine x).size := Array.length_toList
    unfold sigsL at ih ⊢
    rw [List.flatMap_cons, List.length_append, hl, List.length_cons]
    omega
/-- One key more. -/
theorem signR_step {t : ByteArray} {ks : List KeyR} {acc : List SigR} {k : Nat} (hk : k < ks.length) : signR t (ks.drop k) acc = if nameOk ks[k].nm = false then .tuple #[.string ⟨#[]⟩, .int .i64 203] else if amongV acc (keySig t ks[k]) = true then .tuple #[.string ⟨#[]⟩, .int .i64 200] else signR t (ks.drop (k + 1)) (acc ++ [keySig t ks[k]]) := by
  rw [List.drop_eq_getElem_cons hk]
  rfl
end Go.Proofs.YtphoflcilpopgaaGreatDoor

set_option linter.unusedVariables false
set_option linter.unusedSimpArgs false
namespace Go.Proofs.YtphoflcilpopgaaGreatDoor
open Go.RowKit Go.Lib
def KeyR.cs (x : KeyR) : List Value := [.string x.nm, .string x.sc]
def keyCells (xs : List KeyR) : List Value := xs.flatMap KeyR.cs
theorem keyCells_length (xs : List KeyR) : (keyCells xs).length = xs.length * 2 := by
  induction xs with
  | nil => rfl
  | cons x r ih =>
    unfold keyCells at ih ⊢
    rw [List.flatMap_cons, List.length_append, ih, List.length_cons]
    show 2 + _ = _
    omega
theorem keyCells_at (xs : List KeyR) (j i : Nat) (hj : j < xs.length) (hi : i < 2) : (keyCells xs)[j * 2 + i]? = (xs[j].cs)[i]? := by
  induction xs generalizing j with
  | nil => simp at hj
  | cons x r ih =>
    unfold keyCells at ih ⊢
    rw [List.flatMap_cons]
    have hx : x.cs.length = 2 := rfl
    cases j with
    | zero =>
      rw [List.getElem?_append_left (by omega)]
      simp
    | succ j =>
      rw [List.getElem?_append_right (by omega), hx]
      have e : (j + 1) * 2 + i - 2 = j * 2 + i := by omega
      rw [e, ih j (by simpa using hj)]
      rfl
theorem keyCells_app (a b : List KeyR) : keyCells (a ++ b) = keyCells a ++ keyCells b := by unfold keyCells; rw [List.flatMap_append]
def OwnK (w : World) (base : Nat) (v : Value) (xs : List KeyR) : Prop := w.ownsRow base 49 2 v xs.length (keyCells xs)
theorem OwnK.nil (w : World) (base : Nat) : OwnK w base (.slice none 0 0) [] := World.ownsRow_nil w base _ _
theorem OwnK.form {w : World} {base : Nat} {v : Value} {xs : List KeyR} (h : OwnK w base v xs) : (v = .slice none 0 0 ∧ xs = []) ∨ ∃ g cap, v = .slice (some ⟨g, 0, none⟩) xs.length cap ∧ base ≤ g ∧ g < w.heap.size ∧ xs.length ≤ cap := by
  rcases h.2 with ⟨rfl, hn⟩ | ⟨g, cap, cur, rfl, hb, hg, hnc, _⟩
  · exact .inl ⟨rfl, List.eq_nil_of_length_eq_zero hn⟩
  · exact .inr ⟨g, cap, rfl, hb, (Array.getElem?_eq_some_iff.1 hg).1, hnc⟩
theorem OwnK.some {w : World} {base : Nat} {v : Value} {xs : List KeyR} (h : OwnK w base v xs) (hne : xs ≠ []) : ∃ g cap, v = .slice (some ⟨g, 0, none⟩) xs.length cap ∧ base ≤ g ∧ g < w.heap.size ∧ xs.length ≤ cap := by
  rcases h.form with ⟨_, he⟩ | h
  · exact absurd he hne
  · exact h
theorem OwnK.below {w w' : World} {base : Nat} {v : Value} {xs : List KeyR} (h : OwnK w base v xs) (hb : Below w.heap.size w w') : OwnK w' base v xs :=
  World.ownsRow.kept h (only_of_below hb none) (by cases hv : v.ownBlock <;> simp)
theorem OwnK.alloc {w : World} {base : Nat} {v : Value} {xs : List KeyR} (h : OwnK w base v xs) (o : Obj) : OwnK (w.alloc o) base v xs := World.ownsRow.alloc h o
theorem OwnK.drewN {w : World} {base : Nat} {v : Value} {xs : List KeyR} (h : OwnK w base v xs) (n : Nat) : OwnK (w.drewN n) base v xs := h
theorem OwnK.lt {w : World} {base : Nat} {v : Value} {xs : List KeyR} (h : OwnK w base v xs) : ∀ k, v.ownBlock = Option.some k → base ≤ k ∧ k < w.heap.size := World.ownsRow.lt h
theorem OwnK.cell {w : World} {base g n cap : Nat} {xs : List KeyR} (h : OwnK w base (.slice (Option.some ⟨g, 0, Option.none⟩) n cap) xs) (j i : Nat) (hj : j < xs.length) (hi : i < 2) : w.cell? ⟨g, j * 2 + i, Option.none⟩ = (xs[j].cs)[i]? := by
  have hn : n = xs.length := by
    rcases h.form with ⟨hv, he⟩ | ⟨g', cap', hv, _⟩
    · cases hv
    · injection hv
  subst hn
  rw [World.ownsRow.cellAt h (j * 2 + i) (by omega)]
  exact keyCells_at xs j i hj hi
theorem OwnK.keys {w : World} {base g n cap : Nat} {xs : List KeyR} (h : OwnK w base (.slice (Option.some ⟨g, 0, Option.none⟩) n cap) xs) (m c : Nat) (hm : m ≤ xs.length) : KeysAt w (.slice (Option.some ⟨g, 0, Option.none⟩) m c) (xs.take m) := by
  refine ⟨Option.some ⟨g, 0, Option.none⟩, c, by rw [List.length_take, Nat.min_eq_left hm], fun j hj => ⟨_, rfl, ?_, ?_⟩⟩
  all_goals rw [List.length_take] at hj
  · have hadd : (⟨g, 0, Option.none⟩ : Addr).add (j * 2) = ⟨g, j * 2, Option.none⟩ := by unfold Addr.add; split <;> simp_all
    rw [hadd, List.getElem_take]
    exact h.cell j 0 (by omega) (by omega)
  · have hadd : (⟨g, 0, Option.none⟩ : Addr).add (j * 2 + 1) = ⟨g, j * 2 + 1, Option.none⟩ := by unfold Addr.add; split <;> simp_all
    rw [hadd, List.getElem_take]
    exact h.cell j 1 (by omega) (by omega)
theorem OwnK.store {w : World} {base g n cap : Nat} {xs : List KeyR} (h : OwnK w base (.slice (Option.some ⟨g, 0, Option.none⟩) n cap) xs) (x : ByteArray) (k : KeyR) (r : List KeyR) (hx : xs = k :: r) : OwnK (w.setCell ⟨g, 0, Option.none⟩ (.string x)) base (.slice (Option.some ⟨g, 0, Option.none⟩) n cap) (⟨x, k.sc⟩ :: r) := by
  have hl : n = xs.length := by
    rcases h.form with ⟨hv, he⟩ | ⟨g', cap', hv, _⟩
    · cases hv
    · injection hv
  subst hl
  subst hx
  have hs := (World.ownsRow.stored h 0 (.string x)).1
  exact hs
theorem keyInfo : (Tryz.prog.info? 49).map (fun i => (i.zero, i.size, i.bytes)) = Option.some (Option.some (.agg #[.string ⟨#[]⟩, .string ⟨#[]⟩]), 2, 32) := by kernel_rfl
theorem KeysAt.reads {w : World} {A : Option Addr} {m c : Nat} {ks : List KeyR} (h : KeysAt w (.slice A m c) ks) : m = ks.length ∧ Reads w w.heap.size 2 A m (keyCells ks) := by
  obtain ⟨A', c', hv, hc⟩ := h
  injection hv with e1 e2 e3
  subst e1 e2 e3
  refine ⟨rfl, keyCells_length ks, fun h0 => ?_⟩
  obtain ⟨a, rfl, h1, -⟩ := hc 0 h0
  have hb := World.block_lt_of_cell? w _ h1
  rw [block_of_add] at hb
  refine ⟨a, rfl, hb, fun j u hu => ?_⟩
  have hjl : j < (keyCells ks).length := (List.getElem?_eq_some_iff.1 hu).1
  rw [keyCells_length] at hjl
  have ej : j = j / 2 * 2 + j % 2 := by omega
  have hj2 : j / 2 < ks.length := by omega
  obtain ⟨a', ha, h2, h3⟩ := hc (j / 2) hj2
  injection ha with ha
  subst ha
  rw [ej, keyCells_at ks (j / 2) (j % 2) hj2 (by omega)] at hu
  rcases Nat.mod_two_eq_zero_or_one j with h01 | h01
  · rw [h01] at hu
    rw [ej, h01]
    rw [show j / 2 * 2 + 0 = j / 2 * 2 from rfl, h2]
    exact hu
  · rw [h01] at hu
    rw [ej, h01, h3]
    exact hu
theorem key_one (xs : List KeyR) : ∀ u ∈ keyCells xs, u.oneCell' = true := by
  intro u hu
  unfold keyCells at hu
  obtain ⟨x, -, hx⟩ := List.mem_flatMap.1 hu
  simp [KeyR.cs] at hx
  rcases hx with rfl | rfl <;> rfl
/-- append(v, x...) of keys. -/
theorem wpList_appK {ops : Array Oper} {rest : List Oper} {o : Oper} {a : Act} {Q : Exit → Act → World → Prop} (w : World) (hgd : o.guard = Option.none) (s x : Operand)
    (ho : o.op = .call { callee := .builtin .append, args := #[s, x], argTypes := #[22, 22] })
    {base : Nat} {v : Value} {es : List KeyR} (hown : OwnK w base v es) (hs : a.eval s = v) {A : Option Addr} {m c : Nat} {es2 : List KeyR} (hr : KeysAt w (.slice A m c) es2) (hx : a.eval x = .slice A m c)
    (h47 : es.length + es2.length ≤ 1099511627776) (hbase : base ≤ w.heap.size)
    (h : ∀ v' w', OwnK w' base v' (es ++ es2) → w.grownBy w' v.ownBlock → (v'.ownBlock = v.ownBlock ∨ v'.ownBlock = Option.some w.heap.size) → wpList Tryz.prog ops Q rest (a.put o.dst v') w') : wpList Tryz.prog ops Q (o :: rest) a w := by
  obtain ⟨i, hi, hz, hs1, hb1⟩ := info_parts keyInfo
  obtain ⟨hm, hrd⟩ := hr.reads
  refine wpList_append_any (w := w) hgd s x 22 ho base 49 i _ 2 32 Tryz.underlying22 hi hz hs1 hb1 rfl (by decide) v es.length (keyCells es) hs hown w.heap.size A m c (keyCells es2) hx hrd (key_one _) ?_ ?_ hbase ?_
  · simp only [maxLen]; omega
  · omega
  · intro v' w' h1 h2 h3
    refine h v' w' ?_ h2 h3
    unfold OwnK
    rw [keyCells_app, List.length_append, ← hm]
    exact h1
/-- append(v, x), x one key in a new block of its own. -/
theorem wpList_appK1 {ops : Array Oper} {rest : List Oper} {o : Oper} {a : Act} {Q : Exit → Act → World → Prop} (w : World) (hgd : o.guard = Option.none) (s x : Operand)
    (ho : o.op = .call { callee := .builtin .append, args := #[s, x], argTypes := #[22, 22] })
    {base : Nat} {v : Value} {es : List KeyR} (hown : OwnK w base v es) (hs : a.eval s = v) {y : KeyR} (hx : a.eval x = .slice (Option.some ⟨w.heap.size, 0, Option.none⟩) 1 1)
    (h47 : es.length + 1 ≤ 1099511627776) (hbase : base ≤ w.heap.size)
    (h : ∀ v' w', OwnK w' base v' (es ++ [y]) → (w.alloc (.cells #[.string y.nm, .string y.sc] 49)).grownBy w' v.ownBlock → (v'.ownBlock = v.ownBlock ∨ v'.ownBlock = Option.some (w.heap.size + 1)) → wpList Tryz.prog ops Q rest (a.put o.dst v') w') :
    wpList Tryz.prog ops Q (o :: rest) a (w.alloc (.cells #[.string y.nm, .string y.sc] 49)) := by
  refine wpList_appK _ hgd s x ho (hown.alloc _) hs (es2 := [y]) ⟨Option.some ⟨w.heap.size, 0, Option.none⟩, 1, rfl, fun j hj => ⟨_, rfl, ?_, ?_⟩⟩ hx (by simpa using h47) (by simp; omega) (fun v' w' h1 h2 h3 => h v' w' h1 h2 (by simpa using h3))
  all_goals obtain rfl : j = 0 := by simp at hj; exact hj
  · have hadd : (⟨w.heap.size, 0, Option.none⟩ : Addr).add (0 * 2) = ⟨w.heap.size, 0, Option.none⟩ := by unfold Addr.add; simp
    rw [hadd, (Blk.new w 49 #[.string y.nm, .string y.sc]).cell 0]
    rfl
  · have hadd : (⟨w.heap.size, 0, Option.none⟩ : Addr).add (0 * 2 + 1) = ⟨w.heap.size, 1, Option.none⟩ := by unfold Addr.add; simp
    rw [hadd, (Blk.new w 49 #[.string y.nm, .string y.sc]).cell 1]
    rfl
end Go.Proofs.YtphoflcilpopgaaGreatDoor

set_option linter.unusedVariables false
set_option linter.unusedSimpArgs false
namespace Go.Proofs.YtphoflcilpopgaaGreatDoor
open Go.RowKit Go.Lib
def behindK : KeyR := ⟨⟨#[98, 101, 104, 105, 110, 100]⟩, ⟨#[]⟩⟩
theorem KeysAt.at_ {w : World} {A : Option Addr} {m c : Nat} {ks : List KeyR} (h : KeysAt w (.slice A m c) ks) (j : Nat) (hj : j < ks.length) : ∃ a, A = some a ∧ w.cell? (a.add (j * 2)) = some (.string ks[j].nm) ∧ w.cell? ⟨(a.add (j * 2)).block, (a.add (j * 2)).off + 1, none⟩ = some (.string ks[j].sc) := by
  obtain ⟨A', c', hv, hc⟩ := h
  injection hv with e1 e2 e3
  subst e1 e2 e3
  obtain ⟨a, rfl, h1, h2⟩ := hc j hj
  refine ⟨a, rfl, h1, ?_⟩
  have e : (⟨(a.add (j * 2)).block, (a.add (j * 2)).off + 1, none⟩ : Addr) = (a.add (j * 2)).add 1 := rfl
  rw [e, Addr.add_add]
  exact h2
end Go.Proofs.YtphoflcilpopgaaGreatDoor

set_option linter.unusedVariables false
namespace Go.Proofs.YtphoflcilpopgaaGreatDoor
open Go.RowKit Go.Lib Go.Joins
def keysW (ks : List KeyR) : Nat := (ks.map fun k => k.nm.size + k.sc.size + 2).sum
theorem keysW_mem {ks : List KeyR} {k : KeyR} (h : k ∈ ks) : k.nm.size + k.sc.size ≤ keysW ks := by
  induction ks with
  | nil => simp at h
  | cons x r ih =>
    unfold keysW at ih ⊢
    rw [List.map_cons, List.sum_cons]
    rcases List.mem_cons.1 h with rfl | h
    · omega
    · have := ih h; omega
theorem keysW_len (ks : List KeyR) : ks.length ≤ keysW ks := by
  induction ks with
  | nil => simp [keysW]
  | cons x r ih =>
    unfold keysW at ih ⊢
    rw [List.map_cons, List.sum_cons, List.length_cons]
    omega
theorem bulk_keys {H : Type} (S0 S1 : Nat → ByteArray) (l : List Nat) : keysW (l.map fun i => ⟨S0 i, S1 i⟩) ≤ Rows.uptoBulkAll (l.map fun i => (DataW.agg [.lit (.string (S0 i).data.toList), .lit (.string (S1 i).data.toList)] : DataW H)) := by
  induction l with
  | nil => simp [keysW, Rows.uptoBulkAll]
  | cons i r ih =>
    have h0 : (S0 i).data.size = (S0 i).size := rfl
    have h1 : (S1 i).data.size = (S1 i).size := rfl
    unfold keysW at ih ⊢
    simp only [List.map_cons, List.sum_cons, Rows.uptoBulkAll, Rows.uptoBulk, Array.length_toList] at ih ⊢
    omega
set_option maxRecDepth 100000 in
theorem open_keys {H : Type} {enc : TypeId × Value → H} {w : World} {base : Nat} {sp : Nat → Bool} {held : Bool} {r : Reach} {b0 : Nat} {v : Value} {d : DataW H} {p : List MemPlace}
    (hv : Value.okWide Tryz.prog w r b0 22 v) (h : DataW.Trod enc Tryz.prog w base sp held 22 v d p) :
    ∃ ks : List KeyR, KeysAt w v ks ∧ keysW ks ≤ Rows.uptoBulk d := by
  obtain ⟨fuel, hf⟩ := h
  obtain ⟨A, len, cap, rfl⟩ := Go.WideShapes.okWide_slice Tryz.underlying22 hv
  rcases Go.Deep.open_slice_pairs Tryz.underlying22 Tryz.underlying49 (by kernel_rfl) (by rfl) (by rfl) (by kernel_rfl) (by kernel_rfl) hf with ⟨e3, e4⟩ | ⟨a, len', cap', m, n, V0, V1, D0, D1, P0, P1, e3, _, hlc, _, hm, e4, hc⟩
  · simp [Value.cells] at e3
    obtain ⟨rfl, rfl, rfl⟩ := e3
    injection e4 with e4 _
    subst e4
    exact ⟨[], ⟨none, 0, rfl, fun j hj => absurd hj (by simp)⟩, by simp [keysW]⟩
  · simp [Value.cells] at e3
    obtain ⟨rfl, rfl, rfl⟩ := e3
    injection e4 with e4 _
    subst e4
    have hlm : len ≤ m := by rw [hm]; split <;> omega
    have hs : ∀ i, i < m → ∃ q : ByteArray × ByteArray, w.cell? (a.add (i * 2)) = some (.string q.1) ∧ w.cell? (a.add (i * 2 + 1)) = some (.string q.2) ∧ D0 i = .lit (.string q.1.data.toList) ∧ D1 i = .lit (.string q.2.data.toList) := fun i hi => by
      obtain ⟨h1, h2, h3, h4⟩ := hc i hi
      obtain ⟨s0, g0, g1, -⟩ := DataW.trod_string (ht := Tryz.underlying9) h3
      obtain ⟨s1, g2, g3, -⟩ := DataW.trod_string (ht := Tryz.underlying9) h4
      simp at g0 g2
      rw [g0] at h1
      rw [g2] at h2
      injection g1 with g1 _
      injection g3 with g3 _
      exact ⟨(s0, s1), h1, h2, g1, g3⟩
    obtain ⟨q, hq⟩ := Go.Deep.choose_lt hs
    refine ⟨(List.range len).map fun i => ⟨(q i).1, (q i).2⟩, ⟨some a, cap, by simp, fun j hj => ⟨a, rfl, ?_, ?_⟩⟩, ?_⟩
    · simp at hj
      rw [(hq j (by omega)).1]
      simp
    · simp at hj
      rw [(hq j (by omega)).2.1]
      simp
    · have hb := bulk_keys (H := H) (fun i => (q i).1) (fun i => (q i).2) (List.range len)
      have he : ((List.range len).map fun i => (DataW.agg [D0 i, D1 i] : DataW H)) = (List.range len).map fun i => (DataW.agg [.lit (.string (q i).1.data.toList), .lit (.string (q i).2.data.toList)] : DataW H) := by
        refine List.map_congr_left fun i hi => ?_
        have hi' := List.mem_range.1 hi
        rw [(hq i (by omega)).2.2.1, (hq i (by omega)).2.2.2]
      rw [he]
      simp only [Rows.uptoBulk]
      omega
end Go.Proofs.YtphoflcilpopgaaGreatDoor

/-
  CONTRACT of front.requests: the map of the requests, in a new block; a look into it; the document's shape.
-/
import Derived.Test.YtnkioabdpploeaaGreatDoorRows
import Derived.MapKept
import Derived.Test.YtnkioabdpploeaaGreatDoorGBase
import Derived.Test.YtnkioabdpploeaaGreatDoorSCallP
import Derived.Test.YtnkioabdpploeaaGreatDoorSUnesc
set_option linter.unusedVariables false
set_option linter.unusedSimpArgs false
namespace Go.Proofs.YtnkioabdpploeaaGreatDoor
open Go.RowKit Go.Lib
theorem run_mapUpdate_alloc {P : Program} (w : World) (mty kt et : TypeId) (es : Array MapEntry) (clock : Nat) (s : ByteArray) (val : Value) (hm : P.underlying mty = some (.map kt et)) (hk : P.underlying kt = some .string) (hf : Instr.findNow .string (.string s) es.toList 0 = some none) :
    (Instr.mapUpdate mty (.map (some w.heap.size)) (.string s) val).run P (w.alloc (.map es clock)) = .ok () (w.alloc (.map (es.push { key := .string s, val := val, born := clock }) (clock + 1))) := by
  have hb : (w.alloc (.map es clock)).heap[w.heap.size]? = some (.map es clock) := heap_alloc_new _ _
  have hc : (Instr.checkKey false 10000 kt (.string s)).run P (w.alloc (.map es clock)) = .ok () (w.alloc (.map es clock)) := MapKept.run_checkKey (k := .string s) hk (by simp [MapKept.IsKey]) false 9999
  have hw : ∀ o, ({ (w.alloc (.map es clock)) with heap := (w.alloc (.map es clock)).heap.setIfInBounds w.heap.size o } : World) = w.alloc o := fun o => by
    unfold World.alloc
    simp only
    congr 1
    apply Array.ext'
    simp [Array.setIfInBounds]
  simp [Instr.mapUpdate, run_underlying hm, MapKept.run_getObj_map hb, hc, MapKept.run_findKey hk hf, MapKept.run_setObj_map _ hb, Result.andThen]
  exact hw _
theorem run_lookup_str {P : Program} (w : World) (mty kt et : TypeId) (b : Nat) (es : Array MapEntry) (clock : Nat) (s : ByteArray) (hm : P.underlying mty = some (.map kt et)) (hk : P.underlying kt = some .string) (hb : w.heap[b]? = some (.map es clock)) {r : Option (Nat × Value)} (hf : Instr.findNow .string (.string s) es.toList 0 = some r) {z : Value} (hz : (zeroValue et).run P w = .ok z w) :
    (Instr.lookup mty (.map (some b)) (.string s) true).run P w = .ok (.tuple #[(r.map (·.2)).getD z, .bool r.isSome]) w := by
  have hc : ∀ e, (Instr.checkKey e 10000 kt (.string s)).run P w = .ok () w := fun e => MapKept.run_checkKey (k := .string s) hk (by simp [MapKept.IsKey]) e 9999
  cases r with
  | none => simp [Instr.lookup, run_underlying hm, MapKept.run_getObj_map hb, hc, MapKept.run_findKey hk hf, hz, Result.andThen]
  | some p => simp [Instr.lookup, run_underlying hm, MapKept.run_getObj_map hb, hc, MapKept.run_findKey hk hf, hz, Result.andThen]
def reqE0 : Array MapEntry := #[]
def reqE1 : Array MapEntry := #[{ key := .string ⟨#[115, 105, 122, 101]⟩, val := .agg #[.int .i64 0, .int .i64 0, .func (.func 32) #[] #[]], born := 0 }]
def reqE2 : Array MapEntry := #[{ key := .string ⟨#[115, 105, 122, 101]⟩, val := .agg #[.int .i64 0, .int .i64 0, .func (.func 32) #[] #[]], born := 0 }, { key := .string ⟨#[99, 104, 101, 99, 107, 112, 111, 105, 110, 116]⟩, val := .agg #[.int .i64 0, .int .i64 0, .func (.func 33) #[] #[]], born := 1 }]
def reqE3 : Array MapEntry := #[{ key := .string ⟨#[115, 105, 122, 101]⟩, val := .agg #[.int .i64 0, .int .i64 0, .func (.func 32) #[] #[]], born := 0 }, { key := .string ⟨#[99, 104, 101, 99, 107, 112, 111, 105, 110, 116]⟩, val := .agg #[.int .i64 0, .int .i64 0, .func (.func 33) #[] #[]], born := 1 }, { key := .string ⟨#[99, 111, 110, 115, 105, 115, 116, 101, 110, 99, 121]⟩, val := .agg #[.int .i64 2, .int .i64 0, .func (.func 34) #[] #[]], born := 2 }]
def reqE4 : Array MapEntry := #[{ key := .string ⟨#[115, 105, 122, 101]⟩, val := .agg #[.int .i64 0, .int .i64 0, .func (.func 32) #[] #[]], born := 0 }, { key := .string ⟨#[99, 104, 101, 99, 107, 112, 111, 105, 110, 116]⟩, val := .agg #[.int .i64 0, .int .i64 0, .func (.func 33) #[] #[]], born := 1 }, { key := .string ⟨#[99, 111, 110, 115, 105, 115, 116, 101, 110, 99, 121]⟩, val := .agg #[.int .i64 2, .int .i64 0, .func (.func 34) #[] #[]], born := 2 }, { key := .string ⟨#[112, 108, 97, 99, 101]⟩, val := .agg #[.int .i64 1, .int .i64 1, .func (.func 35) #[] #[]], born := 3 }]
def reqE5 : Array MapEntry := #[{ key := .string ⟨#[115, 105, 122, 101]⟩, val := .agg #[.int .i64 0, .int .i64 0, .func (.func 32) #[] #[]], born := 0 }, { key := .string ⟨#[99, 104, 101, 99, 107, 112, 111, 105, 110, 116]⟩, val := .agg #[.int .i64 0, .int .i64 0, .func (.func 33) #[] #[]], born := 1 }, { key := .string ⟨#[99, 111, 110, 115, 105, 115, 116, 101, 110, 99, 121]⟩, val := .agg #[.int .i64 2, .int .i64 0, .func (.func 34) #[] #[]], born := 2 }, { key := .string ⟨#[112, 108, 97, 99, 101]⟩, val := .agg #[.int .i64 1, .int .i64 1, .func (.func 35) #[] #[]], born := 3 }, { key := .string ⟨#[101, 110, 116, 114, 105, 101, 115]⟩, val := .agg #[.int .i64 2, .int .i64 0, .func (.func 36) #[] #[]], born := 4 }]
def reqE6 : Array MapEntry := #[{ key := .string ⟨#[115, 105, 122, 101]⟩, val := .agg #[.int .i64 0, .int .i64 0, .func (.func 32) #[] #[]], born := 0 }, { key := .string ⟨#[99, 104, 101, 99, 107, 112, 111, 105, 110, 116]⟩, val := .agg #[.int .i64 0, .int .i64 0, .func (.func 33) #[] #[]], born := 1 }, { key := .string ⟨#[99, 111, 110, 115, 105, 115, 116, 101, 110, 99, 121]⟩, val := .agg #[.int .i64 2, .int .i64 0, .func (.func 34) #[] #[]], born := 2 }, { key := .string ⟨#[112, 108, 97, 99, 101]⟩, val := .agg #[.int .i64 1, .int .i64 1, .func (.func 35) #[] #[]], born := 3 }, { key := .string ⟨#[101, 110, 116, 114, 105, 101, 115]⟩, val := .agg #[.int .i64 2, .int .i64 0, .func (.func 36) #[] #[]], born := 4 }, { key := .string ⟨#[101, 110, 116, 114, 121]⟩, val := .agg #[.int .i64 2, .int .i64 0, .func (.func 37) #[] #[]], born := 5 }]
def reqE7 : Array MapEntry := #[{ key := .string ⟨#[115, 105, 122, 101]⟩, val := .agg #[.int .i64 0, .int .i64 0, .func (.func 32) #[] #[]], born := 0 }, { key := .string ⟨#[99, 104, 101, 99, 107, 112, 111, 105, 110, 116]⟩, val := .agg #[.int .i64 0, .int .i64 0, .func (.func 33) #[] #[]], born := 1 }, { key := .string ⟨#[99, 111, 110, 115, 105, 115, 116, 101, 110, 99, 121]⟩, val := .agg #[.int .i64 2, .int .i64 0, .func (.func 34) #[] #[]], born := 2 }, { key := .string ⟨#[112, 108, 97, 99, 101]⟩, val := .agg #[.int .i64 1, .int .i64 1, .func (.func 35) #[] #[]], born := 3 }, { key := .string ⟨#[101, 110, 116, 114, 105, 101, 115]⟩, val := .agg #[.int .i64 2, .int .i64 0, .func (.func 36) #[] #[]], born := 4 }, { key := .string ⟨#[101, 110, 116, 114, 121]⟩, val := .agg #[.int .i64 2, .int .i64 0, .func (.func 37) #[] #[]], born := 5 }, { key := .string ⟨#[97, 100, 100]⟩, val := .agg #[.int .i64 0, .int .i64 1, .func (.func 38) #[] #[]], born := 6 }]
def reqE8 : Array MapEntry := #[{ key := .string ⟨#[115, 105, 122, 101]⟩, val := .agg #[.int .i64 0, .int .i64 0, .func (.func 32) #[] #[]], born := 0 }, { key := .string ⟨#[99, 104, 101, 99, 107, 112, 111, 105, 110, 116]⟩, val := .agg #[.int .i64 0, .int .i64 0, .func (.func 33) #[] #[]], born := 1 }, { key := .string ⟨#[99, 111, 110, 115, 105, 115, 116, 101, 110, 99, 121]⟩, val := .agg #[.int .i64 2, .int .i64 0, .func (.func 34) #[] #[]], born := 2 }, { key := .string ⟨#[112, 108, 97, 99, 101]⟩, val := .agg #[.int .i64 1, .int .i64 1, .func (.func 35) #[] #[]], born := 3 }, { key := .string ⟨#[101, 110, 116, 114, 105, 101, 115]⟩, val := .agg #[.int .i64 2, .int .i64 0, .func (.func 36) #[] #[]], born := 4 }, { key := .string ⟨#[101, 110, 116, 114, 121]⟩, val := .agg #[.int .i64 2, .int .i64 0, .func (.func 37) #[] #[]], born := 5 }, { key := .string ⟨#[97, 100, 100]⟩, val := .agg #[.int .i64 0, .int .i64 1, .func (.func 38) #[] #[]], born := 6 }, { key := .string ⟨#[112, 114, 111, 109, 105, 115, 101]⟩, val := .agg #[.int .i64 0, .int .i64 1, .func (.func 39) #[] #[]], born := 7 }]
def reqE9 : Array MapEntry := #[{ key := .string ⟨#[115, 105, 122, 101]⟩, val := .agg #[.int .i64 0, .int .i64 0, .func (.func 32) #[] #[]], born := 0 }, { key := .string ⟨#[99, 104, 101, 99, 107, 112, 111, 105, 110, 116]⟩, val := .agg #[.int .i64 0, .int .i64 0, .func (.func 33) #[] #[]], born := 1 }, { key := .string ⟨#[99, 111, 110, 115, 105, 115, 116, 101, 110, 99, 121]⟩, val := .agg #[.int .i64 2, .int .i64 0, .func (.func 34) #[] #[]], born := 2 }, { key := .string ⟨#[112, 108, 97, 99, 101]⟩, val := .agg #[.int .i64 1, .int .i64 1, .func (.func 35) #[] #[]], born := 3 }, { key := .string ⟨#[101, 110, 116, 114, 105, 101, 115]⟩, val := .agg #[.int .i64 2, .int .i64 0, .func (.func 36) #[] #[]], born := 4 }, { key := .string ⟨#[101, 110, 116, 114, 121]⟩, val := .agg #[.int .i64 2, .int .i64 0, .func (.func 37) #[] #[]], born := 5 }, { key := .string ⟨#[97, 100, 100]⟩, val := .agg #[.int .i64 0, .int .i64 1, .func (.func 38) #[] #[]], born := 6 }, { key := .string ⟨#[112, 114, 111, 109, 105, 115, 101]⟩, val := .agg #[.int .i64 0, .int .i64 1, .func (.func 39) #[] #[]], born := 7 }, { key := .string ⟨#[116, 105, 108, 101]⟩, val := .agg #[.int .i64 0, .int .i64 1, .func (.func 40) #[] #[]], born := 8 }]
set_option maxRecDepth 100000 in
set_option maxHeartbeats 1000000 in
theorem requests_any (w : World) : Calls Tryz.prog 19 #[] w fun e w' => e = .returned (.map (some w.heap.size)) ∧ w' = w.alloc (.map reqE9 9) := by
  have hmm := @run_makeMap Tryz.prog
  have e0 : (#[] : Array MapEntry) = reqE0 := rfl
  have u0 : (Instr.mapUpdate 54 (.map (some w.heap.size)) (.string ⟨#[115, 105, 122, 101]⟩) (.agg #[.int .i64 0, .int .i64 0, .func (.func 32) #[] #[]])).run Tryz.prog (w.alloc (.map reqE0 0)) = .ok () (w.alloc (.map reqE1 1)) := run_mapUpdate_alloc w _ _ _ reqE0 0 _ _ Tryz.underlying54 Tryz.underlying9 (by rfl)
  have u1 : (Instr.mapUpdate 54 (.map (some w.heap.size)) (.string ⟨#[99, 104, 101, 99, 107, 112, 111, 105, 110, 116]⟩) (.agg #[.int .i64 0, .int .i64 0, .func (.func 33) #[] #[]])).run Tryz.prog (w.alloc (.map reqE1 1)) = .ok () (w.alloc (.map reqE2 2)) := run_mapUpdate_alloc w _ _ _ reqE1 1 _ _ Tryz.underlying54 Tryz.underlying9 (by rfl)
  have u2 : (Instr.mapUpdate 54 (.map (some w.heap.size)) (.string ⟨#[99, 111, 110, 115, 105, 115, 116, 101, 110, 99, 121]⟩) (.agg #[.int .i64 2, .int .i64 0, .func (.func 34) #[] #[]])).run Tryz.prog (w.alloc (.map reqE2 2)) = .ok () (w.alloc (.map reqE3 3)) := run_mapUpdate_alloc w _ _ _ reqE2 2 _ _ Tryz.underlying54 Tryz.underlying9 (by rfl)
  have u3 : (Instr.mapUpdate 54 (.map (some w.heap.size)) (.string ⟨#[112, 108, 97, 99, 101]⟩) (.agg #[.int .i64 1, .int .i64 1, .func (.func 35) #[] #[]])).run Tryz.prog (w.alloc (.map reqE3 3)) = .ok () (w.alloc (.map reqE4 4)) := run_mapUpdate_alloc w _ _ _ reqE3 3 _ _ Tryz.underlying54 Tryz.underlying9 (by rfl)
  have u4 : (Instr.mapUpdate 54 (.map (some w.heap.size)) (.string ⟨#[101, 110, 116, 114, 105, 101, 115]⟩) (.agg #[.int .i64 2, .int .i64 0, .func (.func 36) #[] #[]])).run Tryz.prog (w.alloc (.map reqE4 4)) = .ok () (w.alloc (.map reqE5 5)) := run_mapUpdate_alloc w _ _ _ reqE4 4 _ _ Tryz.underlying54 Tryz.underlying9 (by rfl)
  have u5 : (Instr.mapUpdate 54 (.map (some w.heap.size)) (.string ⟨#[101, 110, 116, 114, 121]⟩) (.agg #[.int .i64 2, .int .i64 0, .func (.func 37) #[] #[]])).run Tryz.prog (w.alloc (.map reqE5 5)) = .ok () (w.alloc (.map reqE6 6)) := run_mapUpdate_alloc w _ _ _ reqE5 5 _ _ Tryz.underlying54 Tryz.underlying9 (by rfl)
  have u6 : (Instr.mapUpdate 54 (.map (some w.heap.size)) (.string ⟨#[97, 100, 100]⟩) (.agg #[.int .i64 0, .int .i64 1, .func (.func 38) #[] #[]])).run Tryz.prog (w.alloc (.map reqE6 6)) = .ok () (w.alloc (.map reqE7 7)) := run_mapUpdate_alloc w _ _ _ reqE6 6 _ _ Tryz.underlying54 Tryz.underlying9 (by rfl)
  have u7 : (Instr.mapUpdate 54 (.map (some w.heap.size)) (.string ⟨#[112, 114, 111, 109, 105, 115, 101]⟩) (.agg #[.int .i64 0, .int .i64 1, .func (.func 39) #[] #[]])).run Tryz.prog (w.alloc (.map reqE7 7)) = .ok () (w.alloc (.map reqE8 8)) := run_mapUpdate_alloc w _ _ _ reqE7 7 _ _ Tryz.underlying54 Tryz.underlying9 (by rfl)
  have u8 : (Instr.mapUpdate 54 (.map (some w.heap.size)) (.string ⟨#[116, 105, 108, 101]⟩) (.agg #[.int .i64 0, .int .i64 1, .func (.func 40) #[] #[]])).run Tryz.prog (w.alloc (.map reqE8 8)) = .ok () (w.alloc (.map reqE9 9)) := run_mapUpdate_alloc w _ _ _ reqE8 8 _ _ Tryz.underlying54 Tryz.underlying9 (by rfl)
  rw [e0] at hmm
  go_enter Tryz.func19, Tryz.ntmps19
  go_wp2_with fail
  go_ret
  exact ⟨rfl, rfl⟩
/-- What a look into the map of the requests finds. -/
theorem look_req (nm : ByteArray) : ∃ (k m : Nat) (ok : Bool) (fv : Value), ((ok = true ∧ shapeS nm = some (k, m)) ∨ (ok = false ∧ shapeS nm = none)) ∧ k ≤ 2 ∧ m ≤ 1 ∧ (fv = .nilFunc ∨ ∃ n, fv = .func (.func n) #[] #[]) ∧ ∀ (W : World) (b : Nat), W.heap[b]? = some (.map reqE9 9) → (Instr.lookup 54 (.map (some b)) (.string nm) true).run Tryz.prog W = .ok (.tuple #[.agg #[.int .i64 (k : Int), .int .i64 (m : Int), fv], .bool ok]) W := by
  have hz : ∀ W : World, (zeroValue 52).run Tryz.prog W = .ok (.agg #[.int .i64 0, .int .i64 0, .nilFunc]) W := fun W => by kernel_rfl
  have hr := fun W b hb {r} (hf : Instr.findNow .string (.string nm) reqE9.toList 0 = some r) => run_lookup_str (P := Tryz.prog) W 54 _ _ b reqE9 9 nm Tryz.underlying54 Tryz.underlying9 hb hf (hz W)
  by_cases h0 : nm = ⟨#[115, 105, 122, 101]⟩
  · subst h0
    exact ⟨0, 0, true, _, .inl ⟨rfl, by rfl⟩, by omega, by omega, .inr ⟨_, rfl⟩, fun W b hb => hr W b hb (r := some (0, .agg #[.int .i64 0, .int .i64 0, .func (.func 32) #[] #[]])) (by rfl)⟩
  by_cases h1 : nm = ⟨#[99, 104, 101, 99, 107, 112, 111, 105, 110, 116]⟩
  · subst h1
    exact ⟨0, 0, true, _, .inl ⟨rfl, by rfl⟩, by omega, by omega, .inr ⟨_, rfl⟩, fun W b hb => hr W b hb (r := some (1, .agg #[.int .i64 0, .int .i64 0, .func (.func 33) #[] #[]])) (by rfl)⟩
  by_cases h2 : nm = ⟨#[99, 111, 110, 115, 105, 115, 116, 101, 110, 99, 121]⟩
  · subst h2
    exact ⟨2, 0, true, _, .inl ⟨rfl, by rfl⟩, by omega, by omega, .inr ⟨_, rfl⟩, fun W b hb => hr W b hb (r := some (2, .agg #[.int .i64 2, .int .i64 0, .func (.func 34) #[] #[]])) (by rfl)⟩
  by_cases h3 : nm = ⟨#[112, 108, 97, 99, 101]⟩
  · subst h3
    exact ⟨1, 1, true, _, .inl ⟨rfl, by rfl⟩, by omega, by omega, .inr ⟨_, rfl⟩, fun W b hb => hr W b hb (r := some (3, .agg #[.int .i64 1, .int .i64 1, .func (.func 35) #[] #[]])) (by rfl)⟩
  by_cases h4 : nm = ⟨#[101, 110, 116, 114, 105, 101, 115]⟩
  · subst h4
    exact ⟨2, 0, true, _, .inl ⟨rfl, by rfl⟩, by omega, by omega, .inr ⟨_, rfl⟩, fun W b hb => hr W b hb (r := some (4, .agg #[.int .i64 2, .int .i64 0, .func (.func 36) #[] #[]])) (by rfl)⟩
  by_cases h5 : nm = ⟨#[101, 110, 116, 114, 121]⟩
  · subst h5
    exact ⟨2, 0, true, _, .inl ⟨rfl, by rfl⟩, by omega, by omega, .inr ⟨_, rfl⟩, fun W b hb => hr W b hb (r := some (5, .agg #[.int .i64 2, .int .i64 0, .func (.func 37) #[] #[]])) (by rfl)⟩
  by_cases h6 : nm = ⟨#[97, 100, 100]⟩
  · subst h6
    exact ⟨0, 1, true, _, .inl ⟨rfl, by rfl⟩, by omega, by omega, .inr ⟨_, rfl⟩, fun W b hb => hr W b hb (r := some (6, .agg #[.int .i64 0, .int .i64 1, .func (.func 38) #[] #[]])) (by rfl)⟩
  by_cases h7 : nm = ⟨#[112, 114, 111, 109, 105, 115, 101]⟩
  · subst h7
    exact ⟨0, 1, true, _, .inl ⟨rfl, by rfl⟩, by omega, by omega, .inr ⟨_, rfl⟩, fun W b hb => hr W b hb (r := some (7, .agg #[.int .i64 0, .int .i64 1, .func (.func 39) #[] #[]])) (by rfl)⟩
  by_cases h8 : nm = ⟨#[116, 105, 108, 101]⟩
  · subst h8
    exact ⟨0, 1, true, _, .inl ⟨rfl, by rfl⟩, by omega, by omega, .inr ⟨_, rfl⟩, fun W b hb => hr W b hb (r := some (8, .agg #[.int .i64 0, .int .i64 1, .func (.func 40) #[] #[]])) (by rfl)⟩
  have hs : shapeS nm = none := by
    unfold shapeS nmsL
    rw [Option.map_eq_none_iff, List.find?_eq_none]
    intro x hx e
    have e2 : x.1 = nm.data.toList := by simpa using e
    have hb : ∀ l : List UInt8, l = nm.data.toList → nm = ⟨l.toArray⟩ := fun l h => by apply ByteArray.ext; apply Array.ext'; rw [← h]
    have e3 := hb _ e2
    simp only [List.mem_cons, List.not_mem_nil, or_false] at hx
    rcases hx with rfl | rfl | rfl | rfl | rfl | rfl | rfl | rfl | rfl
    · exact h0 e3
    · exact h1 e3
    · exact h2 e3
    · exact h3 e3
    · exact h4 e3
    · exact h5 e3
    · exact h6 e3
    · exact h7 e3
    · exact h8 e3
  have g0 : (nm == ⟨#[115, 105, 122, 101]⟩) = false := Bool.eq_false_iff.2 (fun e => h0 ((MapKept.bytes_beq _ _).1 e))
  have g1 : (nm == ⟨#[99, 104, 101, 99, 107, 112, 111, 105, 110, 116]⟩) = false := Bool.eq_false_iff.2 (fun e => h1 ((MapKept.bytes_beq _ _).1 e))
  have g2 : (nm == ⟨#[99, 111, 110, 115, 105, 115, 116, 101, 110, 99, 121]⟩) = false := Bool.eq_false_iff.2 (fun e => h2 ((MapKept.bytes_beq _ _).1 e))
  have g3 : (nm == ⟨#[112, 108, 97, 99, 101]⟩) = false := Bool.eq_false_iff.2 (fun e => h3 ((MapKept.bytes_beq _ _).1 e))
  have g4 : (nm == ⟨#[101, 110, 116, 114, 105, 101, 115]⟩) = false := Bool.eq_false_iff.2 (fun e => h4 ((MapKept.bytes_beq _ _).1 e))
  have g5 : (nm == ⟨#[101, 110, 116, 114, 121]⟩) = false := Bool.eq_false_iff.2 (fun e => h5 ((MapKept.bytes_beq _ _).1 e))
  have g6 : (nm == ⟨#[97, 100, 100]⟩) = false := Bool.eq_false_iff.2 (fun e => h6 ((MapKept.bytes_beq _ _).1 e))
  have g7 : (nm == ⟨#[112, 114, 111, 109, 105, 115, 101]⟩) = false := Bool.eq_false_iff.2 (fun e => h7 ((MapKept.bytes_beq _ _).1 e))
  have g8 : (nm == ⟨#[116, 105, 108, 101]⟩) = false := Bool.eq_false_iff.2 (fun e => h8 ((MapKept.bytes_beq _ _).1 e))
  refine ⟨0, 0, false, .nilFunc, .inr ⟨rfl, hs⟩, by omega, by omega, .inl rfl, fun W b hb => hr W b hb (r := none) ?_⟩
  show Instr.findNow _ _ [{ key := .string ⟨#[115, 105, 122, 101]⟩, val := .agg #[.int .i64 0, .int .i64 0, .func (.func 32) #[] #[]], born := 0 }, { key := .string ⟨#[99, 104, 101, 99, 107, 112, 111, 105, 110, 116]⟩, val := .agg #[.int .i64 0, .int .i64 0, .func (.func 33) #[] #[]], born := 1 }, { key := .string ⟨#[99, 111, 110, 115, 105, 115, 116, 101, 110, 99, 121]⟩, val := .agg #[.int .i64 2, .int .i64 0, .func (.func 34) #[] #[]], born := 2 }, { key := .string ⟨#[112, 108, 97, 99, 101]⟩, val := .agg #[.int .i64 1, .int .i64 1, .func (.func 35) #[] #[]], born := 3 }, { key := .string ⟨#[101, 110, 116, 114, 105, 101, 115]⟩, val := .agg #[.int .i64 2, .int .i64 0, .func (.func 36) #[] #[]], born := 4 }, { key := .string ⟨#[101, 110, 116, 114, 121]⟩, val := .agg #[.int .i64 2, .int .i64 0, .func (.func 37) #[] #[]], born := 5 }, { key := .string ⟨#[97, 100, 100]⟩, val := .agg #[.int .i64 0, .int .i64 1, .func (.func 38) #[] #[]], born := 6 }, { key := .string ⟨#[112, 114, 111, 109, 105, 115, 101]⟩, val := .agg #[.int .i64 0, .int .i64 1, .func (.func 39) #[] #[]], born := 7 }, { key := .string ⟨#[116, 105, 108, 101]⟩, val := .agg #[.int .i64 0, .int .i64 1, .func (.func 40) #[] #[]], born := 8 }] 0 = _
  simp only [Instr.findNow, Instr.sameNow, g0, g1, g2, g3, g4, g5, g6, g7, g8]
end Go.Proofs.YtnkioabdpploeaaGreatDoor

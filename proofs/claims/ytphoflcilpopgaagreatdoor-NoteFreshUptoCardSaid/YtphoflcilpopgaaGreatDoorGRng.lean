/-
  Several texts in one: A RANGE OVER A FUNCTION WHOSE ITERATOR KEEPS ITS STATE IN A CELL OF ITS OWN (a captured variable): block B. The kit's own laws want an iterator that turns no cells. | THE ITERATOR note.fromEnd$1: the lines of a text, the last one first.
-/
import Derived.RangeFuncNested
import Derived.RangeFuncBound
import Derived.RangeFuncCalls
import Derived.RangeFuncLeaves
import Derived.Shelf.Abstract
import Derived.Shelf.RegionOpen
import Derived.WalkKit
import Derived.OwnWalkIn
import Derived.TacticsInMore
import Derived.LoopNIn
import Derived.LoopIn
import Derived.Test.YtphoflcilpopgaaGreatDoorRows
import Derived.Test.YtphoflcilpopgaaGreatDoorGBase
import Derived.Test.YtphoflcilpopgaaGreatDoorSShelf
set_option linter.unusedVariables false
namespace Go.Proofs.YtphoflcilpopgaaGreatDoor
open Go.RowKit
/-- What is said between two rounds abides the iterator's store into its block B, and the turn of the law's own blocks. -/
def Mild {β : Type} (B n : Nat) (I : β → World → Prop) : Prop :=
  ∀ s W W' row, I s W → W.grownBy W' row → (∀ r, row = some r → r = B ∨ (n ≤ r ∧ ∃ o : Obj, W.heap[r]? = some o ∧ o.isCells = false)) → I s W'
theorem Mild.step {β : Type} {B n : Nat} {I : β → World → Prop} (h : Mild B n I) {s : β} {W W' : World} (hs : I s W) (hg : W.grownBy W' (some B)) : I s W' :=
  h s W W' _ hs hg (fun r e => by cases e; exact .inl rfl)
theorem Mild.turn {β : Type} {B n : Nat} {I : β → World → Prop} (h : Mild B n I) {s : β} {W : World} {l : Nat} {o : Obj} (o' : Obj) (hs : I s W) (hn : n ≤ l) (hl : W.heap[l]? = some o) (ho : o.isCells = false) : I s (W.putObj l o') :=
  h s W _ (some l) hs (grownBy_putObj' W l o') (fun r e => by cases e; exact .inr ⟨hn, o, hl, ho⟩)
theorem Mild.more {β : Type} {B n : Nat} {I : β → World → Prop} (h : Mild B n I) {s : β} {W : World} (o : Obj) (hs : I s W) : I s (W.alloc o) :=
  h s W _ none hs (World.grownBy_alloc W o none) (fun r e => by cases e)
/-- THE CONTRACT of such an iterator: it hands on the elements of xs one after the other; between two rounds it turns block B alone. -/
def SeqCell {α : Type} (F : Fence) (n : Nat) (P : Program) (g : Nat) (lb : Array Value) (encs : α → Array Value) (B : Nat) (xs : List α) (w : World) : Prop :=
  ∀ (l : Nat) (J Jx : List α → World → Prop) (W : World), W.heap[B]? = w.heap[B]? → (∀ s W W', J s W → W.grownBy W' (some B) → J s W') →
    (∀ pre x W1, J pre W1 → pre ++ [x] <+: xs → YieldAt F (n - 1) P l (encs x) W1 fun e W' =>
      (e = .returned (.bool true) ∧ J (pre ++ [x]) W' ∧ W'.heap[B]? = W1.heap[B]?) ∨ (e = .returned (.bool false) ∧ Jx (pre ++ [x]) W')) →
    J [] W →
    CallsIn F n P g (#[.func (.yield l) #[] #[]] ++ lb) W fun e W' => (∃ v, e = .returned v) ∧ (J xs W' ∨ ∃ pre, pre <+: xs ∧ Jx pre W')
def cellPost {α : Type} (B : Nat) (I : List α → World → Prop) (Ix : Code → List α → World → Prop) (s : List α) (W : World) : Exit → Act → World → Prop
  | .normal, _, W' => KeepsOthers W W' ∧ W'.heap[B]? = W.heap[B]? ∧ I s W'
  | .ret, _, W' => KeepsOthers W W' ∧ Ix .ret s W'
  | .exit id, _, W' => KeepsOthers W W' ∧ Ix (.exit id) s W'
  | .goto t, _, W' => KeepsOthers W W' ∧ Ix (.goto t) s W'
  | .panic _, _, _ => False
  | .outgrown, _, _ => False
variable {F : Fence} {n : Nat} {P : Program}
/-- The loop's record as it lies. -/
def recOf (fn : FuncId) (tmps : Array Value) (ps : Array Tmp) (assign body : Code) (D : Nat) (st : LoopState) (pe : Option Code) : Loop :=
  { state := st, pending := pe, fn, tmps, params := ps, assign, body, defers := D }
theorem wpIn_range_cell {α : Type} {g : Operand} {ps : Array Tmp} {assign body : Code} {Q : Exit → Act → World → Prop} {a : Act} {w : World}
    (hro : F.round = none) (h1 : 1 ≤ n) {gf : Nat} {lb : Array Value} (hg : a.eval g = .func (.func gf) #[] lb) (hFg : F.fn gf) (eg : ∀ args w, (callFunc gf args).run P w = .ok (.enter gf args) w)
    {encs : α → Array Value} {B : Nat} (hB : B < w.heap.size) {xs : List α} (hseq : SeqCell F (n - 1) P gf lb encs B xs w) (hps : ∀ x, (encs x).size = ps.size)
    (I : List α → World → Prop) (Ix : Code → List α → World → Prop) (hI : Mild B w.heap.size I) (hIx : ∀ c, Mild B w.heap.size (Ix c)) (h0 : I [] w) (a₁ : α → Act)
    (hassign : ∀ (l : Nat) (x : α) (W : World) (K : Act → World → Prop), K (a₁ x) W →
      assign.wpIn (F.inRound l) (n - 1 - 1) P (Exit.then K (fun _ _ _ => False)) { tmps := (ps.zip (encs x)).foldl (fun t (p, v) => t.setIfInBounds p v) a.tmps, defers := [] } W)
    (hbody : ∀ (l : Nat) (pre : List α) (x : α) (W : World), I pre W → pre ++ [x] <+: xs → body.wpIn (F.inRound l) (n - 1 - 1) P (cellPost B I Ix (pre ++ [x]) W) (a₁ x) W)
    (hdone : ∀ (D : Nat) (W : World), w.heap.size ≤ D → I xs W → W.heap[D]? = some (.deferred (some [])) → Q .normal { a with defers := { target := .collected D, args := #[] } :: a.defers } W)
    (hstop : ∀ (D : Nat) (c : Code) (pre : List α) (W : World), w.heap.size ≤ D → pre <+: xs → Ix c pre W → W.heap[D]? = some (.deferred (some [])) → c.wpIn F n P Q { a with defers := { target := .collected D, args := #[] } :: a.defers } W) :
    (Code.rangeFunc g ps assign body).wpIn F n P Q a w := by
  refine wpIn_rangeFunc fun fn hfn => ?_
  rw [hro]
  have hrec : ∀ (W : World) (D : Nat), (Instr.enterLoop fn a.tmps ps assign body none).run P w = .ok (w.heap.size + 1, [{ target := .collected w.heap.size, args := #[] }]) ((w.alloc (.deferred (some []))).alloc (.loop (recOf fn a.tmps ps assign body w.heap.size .ready none))) := fun _ _ => run_enterLoop_outer _ _ _ _ _
  have hL1 : ((w.alloc (.deferred (some []))).alloc (.loop (recOf fn a.tmps ps assign body w.heap.size .ready none))).heap[w.heap.size + 1]? = some (.loop (recOf fn a.tmps ps assign body w.heap.size .ready none)) := by
    have := World.alloc_heap_new (w.alloc (.deferred (some []))) (.loop (recOf fn a.tmps ps assign body w.heap.size .ready none)); rwa [World.size_alloc] at this
  have hK1 : ((w.alloc (.deferred (some []))).alloc (.loop (recOf fn a.tmps ps assign body w.heap.size .ready none))).heap[w.heap.size]? = some (.deferred (some [])) :=
    (Below.heap_alloc _ _ _ (by simp)).trans (World.alloc_heap_new w _)
  have hBB : ((w.alloc (.deferred (some []))).alloc (.loop (recOf fn a.tmps ps assign body w.heap.size .ready none))).heap[B]? = w.heap[B]? :=
    (Below.heap_alloc _ _ _ (by simp; omega)).trans (Below.heap_alloc _ _ _ hB)
  have hI1 := hI.more (.loop (recOf fn a.tmps ps assign body w.heap.size .ready none)) (hI.more (.deferred (some [])) h0)
  have hrec := hrec w 0
  generalize hW1 : (w.alloc (.deferred (some []))).alloc (.loop (recOf fn a.tmps ps assign body w.heap.size .ready none)) = W1 at *
  refine ⟨w.heap.size + 1, [{ target := .collected w.heap.size, args := #[] }], W1, { target := .fn (.func gf) lb, args := #[.func (.yield (w.heap.size + 1)) #[] #[]] }, W1, gf,
    #[.func (.yield (w.heap.size + 1)) #[] #[]] ++ lb, W1, hrec, ?_, ?_, ?_, fun _ => h1, ?_⟩
  · simp only [resolve, hg]
    simp [go_sem]
  · intro f' hf'; simp [Target.leads] at hf'; subst hf'; exact hFg
  · simp [invoke, go_sem, eg]
  have keeps : ∀ {A C : World} {k : Nat} {o : Obj}, A.grownBy C (some B) → k ≠ B → A.heap[k]? = some o → C.heap[k]? = some o := fun hg' hk ho =>
    (hg'.block _ (Array.getElem?_eq_some_iff.1 ho).1 (fun e => hk (by cases e; rfl))).trans ho
  refine (hseq (w.heap.size + 1)
    (fun pre W => I pre W ∧ W.heap[w.heap.size + 1]? = some (.loop (recOf fn a.tmps ps assign body w.heap.size .ready none)) ∧ W.heap[w.heap.size]? = some (.deferred (some [])))
    (fun pre W => ∃ c, Ix c pre W ∧ W.heap[w.heap.size + 1]? = some (.loop (recOf fn a.tmps ps assign body w.heap.size .done (some c))) ∧ W.heap[w.heap.size]? = some (.deferred (some [])))
    W1 hBB (fun s A C hs hg' => ⟨hI.step hs.1 hg', keeps hg' (by omega) hs.2.1, keeps hg' (by omega) hs.2.2⟩) ?_ ⟨hI1, hL1, hK1⟩).mono ?_
  · rintro pre x W ⟨hi, hl, hk⟩ hpre
    have hlt : w.heap.size + 1 < W.heap.size := (Array.getElem?_eq_some_iff.1 hl).1
    have hy := run_yield (P := P) (args := encs x) hl (by exact hps x)
    refine ⟨fn, _, assign, body, hy, roundIn_of_wpIn hfn (hassign _ x W _ ⟨_, run_beginRound hl rfl, ?_⟩)⟩
    have hl2 : (W.putObj (w.heap.size + 1) (.loop (recOf fn a.tmps ps assign body w.heap.size .busy none))).heap[w.heap.size + 1]? = some (.loop (recOf fn a.tmps ps assign body w.heap.size .busy none)) := World.putObj_heap_same hlt
    have hk2 : (W.putObj (w.heap.size + 1) (.loop (recOf fn a.tmps ps assign body w.heap.size .busy none))).heap[w.heap.size]? = some (.deferred (some [])) := (World.putObj_heap_other (by omega)).trans hk
    have hb2 : (W.putObj (w.heap.size + 1) (.loop (recOf fn a.tmps ps assign body w.heap.size .busy none))).heap[B]? = W.heap[B]? := World.putObj_heap_other (by omega)
    refine wpIn_mono (hbody _ pre x _ (hI.turn _ hi (by omega) hl rfl) hpre) ?_
    have fin : ∀ (jump : Option Code) (W3 : World), KeepsOthers (W.putObj (w.heap.size + 1) (.loop (recOf fn a.tmps ps assign body w.heap.size .busy none))) W3 →
        (Instr.endRound (w.heap.size + 1) jump).run P W3 = .ok (.bool jump.isNone) (W3.putObj (w.heap.size + 1) (.loop (recOf fn a.tmps ps assign body w.heap.size (if jump.isNone then .ready else .done) jump))) ∧
        W3.heap[w.heap.size + 1]? = some (.loop (recOf fn a.tmps ps assign body w.heap.size .busy none)) ∧
        (W3.putObj (w.heap.size + 1) (.loop (recOf fn a.tmps ps assign body w.heap.size (if jump.isNone then .ready else .done) jump))).heap[w.heap.size + 1]? = some (.loop (recOf fn a.tmps ps assign body w.heap.size (if jump.isNone then .ready else .done) jump)) ∧
        (W3.putObj (w.heap.size + 1) (.loop (recOf fn a.tmps ps assign body w.heap.size (if jump.isNone then .ready else .done) jump))).heap[w.heap.size]? = some (.deferred (some [])) := fun jump W3 hk3 => by
      have hl3 := hk3.same _ _ hl2 rfl
      exact ⟨run_endRound (P := P) jump hl3, hl3, World.putObj_heap_same (Array.getElem?_eq_some_iff.1 hl3).1, (World.putObj_heap_other (by omega)).trans (hk3.same _ _ hk2 rfl)⟩
    rintro e a3 W3 hp
    cases e with
    | normal =>
      obtain ⟨hk3, hb3, hi3⟩ := hp
      obtain ⟨hr, hl3, hl4, hk4⟩ := fin none W3 hk3
      exact ⟨_, _, hr, .inl ⟨rfl, ⟨hI.turn _ hi3 (by omega) hl3 rfl, hl4, hk4⟩, ((World.putObj_heap_other (by omega)).trans hb3).trans hb2⟩⟩
    | ret =>
      obtain ⟨hk3, hi3⟩ := hp
      obtain ⟨hr, hl3, hl4, hk4⟩ := fin (some .ret) W3 hk3
      exact ⟨_, _, hr, .inr ⟨rfl, .ret, (hIx _).turn _ hi3 (by omega) hl3 rfl, hl4, hk4⟩⟩
    | exit id =>
      obtain ⟨hk3, hi3⟩ := hp
      obtain ⟨hr, hl3, hl4, hk4⟩ := fin (some (.exit id)) W3 hk3
      exact ⟨_, _, hr, .inr ⟨rfl, .exit id, (hIx _).turn _ hi3 (by omega) hl3 rfl, hl4, hk4⟩⟩
    | goto t =>
      obtain ⟨hk3, hi3⟩ := hp
      obtain ⟨hr, hl3, hl4, hk4⟩ := fin (some (.goto t)) W3 hk3
      exact ⟨_, _, hr, .inr ⟨rfl, .goto t, (hIx _).turn _ hi3 (by omega) hl3 rfl, hl4, hk4⟩⟩
    | panic ch => exact hp.elim
    | outgrown => exact hp.elim
  · rintro e W2 ⟨⟨v, rfl⟩, (⟨hi, hl, hk⟩ | ⟨pre, hpre, c, hi, hl, hk⟩)⟩
    · exact ⟨none, _, run_endLoop (P := P) hl (by simp [recOf]), hdone _ _ (Nat.le_refl _) (hI.turn _ hi (by omega) hl rfl) ((World.putObj_heap_other (by omega)).trans hk)⟩
    · exact ⟨some c, _, run_endLoop (P := P) hl (by simp [recOf]), hstop _ c pre _ (Nat.le_refl _) hpre ((hIx c).turn _ hi (by omega) hl rfl) ((World.putObj_heap_other (by omega)).trans hk)⟩
end Go.Proofs.YtphoflcilpopgaaGreatDoor

set_option linter.unusedVariables false
set_option linter.unusedSimpArgs false
namespace Go.Proofs.YtphoflcilpopgaaGreatDoor
open Go.RowKit Go.Lib
attribute [local go_sem] Oper.semAt_some
/-- Where a text's last line begins. -/
def atOf (s : ByteArray) : Nat := (Lib.lastIndexByte (s.extract 0 (s.size - 1)) 10 + 1).toNat
theorem lastIdx_le (s : ByteArray) (c : Int) (k : Nat) : -1 ≤ Lib.lastIdx s c k ∧ Lib.lastIdx s c k < k := by
  rcases Lib.lastIdx_spec s c k with ⟨h, _⟩ | ⟨i, hi, h, _⟩ <;> omega
theorem atOf_int (s : ByteArray) (h : 0 < s.size) : Lib.lastIndexByte (s.extract 0 (s.size - 1)) 10 + 1 = (atOf s : Int) ∧ atOf s ≤ s.size - 1 := by
  have h1 := lastIdx_le (s.extract 0 (s.size - 1)) 10 (s.extract 0 (s.size - 1)).size
  have h2 : (s.extract 0 (s.size - 1)).size = s.size - 1 := by rw [ByteArray.size_extract]; omega
  unfold atOf
  unfold Lib.lastIndexByte at *
  omega
def fromEndF : Nat → ByteArray → List (Nat × ByteArray)
  | 0, _ => []
  | f + 1, s => if s.size = 0 then [] else (atOf s, s.extract (atOf s) (s.size - 1)) :: fromEndF f (s.extract 0 (atOf s))
theorem fromEndF_more : ∀ (f g : Nat) (s : ByteArray), s.size ≤ f → s.size ≤ g → fromEndF f s = fromEndF g s
  | 0, 0, _, _, _ => rfl
  | 0, g + 1, s, hf, _ => by simp [fromEndF, Nat.le_zero.1 hf]
  | f + 1, 0, s, _, hg => by simp [fromEndF, Nat.le_zero.1 hg]
  | f + 1, g + 1, s, hf, hg => by
    simp only [fromEndF]
    split
    · rfl
    · rename_i h
      have hp : 0 < s.size := Nat.pos_of_ne_zero h
      have ha := (atOf_int s hp).2
      have hs : (s.extract 0 (atOf s)).size = atOf s := by rw [ByteArray.size_extract]; omega
      rw [fromEndF_more f g _ (by omega) (by omega)]
def fromEndL (s : ByteArray) : List (Nat × ByteArray) := fromEndF s.size s
theorem fromEndL_none {s : ByteArray} (h : s.size = 0) : fromEndL s = [] := by rw [fromEndL, h]; rfl
theorem fromEndL_step {s : ByteArray} (h : 0 < s.size) : fromEndL s = (atOf s, s.extract (atOf s) (s.size - 1)) :: fromEndL (s.extract 0 (atOf s)) := by
  have ha := (atOf_int s h).2
  have hs : (s.extract 0 (atOf s)).size = atOf s := by rw [ByteArray.size_extract]; omega
  obtain ⟨f, hf⟩ : ∃ f, s.size = f + 1 := ⟨s.size - 1, by omega⟩
  rw [fromEndL, hf, fromEndF, if_neg (by omega), fromEndL, fromEndF_more f (s.extract 0 (atOf s)).size _ (by omega) (Nat.le_refl _), hf]
/-- How much is left. -/
def leftB (B : Nat) (w : World) : Nat := match w.cell? ⟨B, 0, none⟩ with | some (.string x) => x.size | _ => 0
theorem leftB_eq {B : Nat} {w : World} {x : ByteArray} (h : w.cell? ⟨B, 0, none⟩ = some (.string x)) : leftB B w = x.size := by rw [leftB, h]
def encLine (x : Nat × ByteArray) : Array Value := #[.int .i64 (x.1 : Int), .string x.2]
set_option maxRecDepth 100000 in
set_option maxHeartbeats 1000000 in
theorem fromEnd_cell (n : Nat) (hn : 1 ≤ n) (B : Nat) (s : ByteArray) (w : World) (hs : s.size ≤ 1099511627776) (hB : Blk w B 9 #[.string s]) :
    SeqCell Fence.wide n Tryz.prog 69 #[.pointer (some ⟨B, 0, none⟩)] encLine B (fromEndL s) w := by
  intro l J Jx W hW hJ hY h0
  refine callsIn_of_wp Tryz.func69 rfl trivial ?_ rfl
  simp only [Tryz.ntmps69, List.size_toArray, List.length_cons, List.length_nil, Nat.reduceAdd, Nat.reduceSub, Array.replicate_succ, Array.replicate_zero, List.push_toArray, List.append_toArray, List.nil_append, List.cons_append]
  have hB1 : Blk W B 9 #[.string s] := hW.trans hB
  gi_wp2
  gi_loopw [3] (fun p wr => ∃ (s' : ByteArray) (pre : List (Nat × ByteArray)), s'.size ≤ s.size ∧ Hid (pre ++ fromEndL s' = fromEndL s) ∧ Blk wr B 9 #[.string s'] ∧ J pre wr) (fun p wr => leftB B wr)
  case atStart => exact ⟨s, [], Nat.le_refl _, Lib.hid (by simp), hB1, h0⟩
  case round =>
    obtain ⟨s', pre, hle, hx, hb, hj⟩ := hrel
    have c0 := hb.cell 0
    have f0 := hb.frozen 0
    simp only [List.getElem?_toArray, List.getElem?_cons_zero] at c0
    rcases Nat.eq_zero_or_pos s'.size with h0' | h0'
    · have hi : ¬ (0 : Int) < (s'.size : Int) := by omega
      have hnil := fromEndL_none h0'
      rw [hnil] at hx
      have hx' := hx.out
      rw [List.append_nil] at hx'
      subst hx'
      gi_wp2
      go_end0
      exact ⟨⟨_, rfl⟩, .inl hj⟩
    · have hi : (0 : Int) < (s'.size : Int) := by omega
      obtain ⟨ha1, ha2⟩ := atOf_int s' h0'
      have hst := fromEndL_step h0'
      have hsz : (s'.extract 0 (s'.size - 1)).size < 4611686018427387904 := by rw [ByteArray.size_extract]; omega
      have hpre : pre ++ [(atOf s', s'.extract (atOf s') (s'.size - 1))] <+: fromEndL s := by
        rw [← hx.out, hst]
        exact ⟨fromEndL (s'.extract 0 (atOf s')), by simp⟩
      obtain ⟨fn, tmps, assign, body, hy, hR⟩ := hY pre _ wr hj hpre
      dsimp only [encLine] at hy
      rw [hst] at hx
      have hli := Tryz.strings_LastIndexByte _ 10 hsz wr
      generalize atOf s' = k at *
      have HX := Lib.hid hx.out
      clear hx hst hpre
      gi_wp2_with (refine ⟨trivial, (callsIn_wide.2 hli).mono ?_⟩; clear hli; rintro e w1 ⟨rfl, rfl⟩)
      have HB := hide hb; clear hb c0 f0
      have hcat : (pre ++ [(k, s'.extract k (s'.size - 1))]) ++ fromEndL (s'.extract 0 k) = fromEndL s := by rw [← HX.out]; simp
      have hke : (s'.extract 0 k).size = k := by rw [ByteArray.size_extract]; omega
      have hki : (k : Int) ≤ (s'.size : Int) := by omega
      refine hR.mono ?_
      rintro e W3 (⟨rfl, hJ3, hk3⟩ | ⟨rfl, hJx3⟩)
      · have hb3 : Blk W3 B 9 #[.string s'] := hk3.trans (unhide HB)
        have c3 := hb3.cell 0
        have f3 := hb3.frozen 0
        simp only [List.getElem?_toArray, List.getElem?_cons_zero] at c3
        gi_wp2
        go_roundw
        case rel =>
          refine ⟨s'.extract 0 k, pre ++ [(k, s'.extract k (s'.size - 1))], by omega, Lib.hid hcat, ?_, hJ _ _ _ hJ3 (grownBy_setCell' _ _ _)⟩
          exact hb3.set_ 0 (.string (s'.extract 0 k))
        case measure =>
          have e1 : leftB B (W3.setCell ⟨B, 0, none⟩ (.string (s'.extract 0 k))) = k := by
            have hb4 := hb3.set_ 0 (.string (s'.extract 0 k))
            rw [leftB_eq (x := s'.extract 0 k) (by have := hb4.cell 0; simpa using this), hke]
          have e2 : leftB B w1 = s'.size := leftB_eq (by have := (unhide HB).cell 0; simpa using this)
          omega
      · gi_wp2
        refine bodyPost_ret (results_none rfl _ _ _) rfl ?_
        exact ⟨⟨_, rfl⟩, .inr ⟨_, ⟨_, hcat⟩, hJx3⟩⟩
end Go.Proofs.YtphoflcilpopgaaGreatDoor

/-
  Several texts in one: CONTRACTS: note.signed and the document's sig: what a signature's line says. | A RANGE OVER A FUNCTION WHOSE ITERATOR KEEPS ITS STATE IN A CELL OF ITS OWN (a captured variable): block B. The kit's own laws want an iterator that turns no cells. | THE ITERATOR note.fromEnd$1: the lines of a text, the last one first. | THE PLAIN LAW of a text parted into lines.
-/
import Derived.Test.YtfhaoamlagnpjaaDoorRows
import Derived.Laws.ResultCell
import Derived.Deep.QuietTactic
import Derived.BigQuiet
import Derived.RangeFuncNested
import Derived.RangeFuncBound
import Derived.RangeFuncCalls
import Derived.RangeFuncLeaves
import Derived.Shelf.Abstract
import Derived.Shelf.RegionOpen
import Derived.WalkKit
import Derived.OwnWalkIn
import Derived.TacticsInMore
import Derived.LoopNIn
import Derived.LoopIn
import Derived.Test.YtfhaoamlagnpjaaDoorGNoteAdd1
import Derived.Test.YtfhaoamlagnpjaaDoorGNoteAdd7
import Derived.Test.YtfhaoamlagnpjaaDoorGNoteAdd9
import Derived.Test.YtfhaoamlagnpjaaDoorGNoteAdd10
import Derived.Test.YtfhaoamlagnpjaaDoorGNoteAdd3
set_option linter.unusedVariables false
set_option linter.unusedSimpArgs false
namespace Go.Proofs.YtfhaoamlagnpjaaDoor
open Go.RowKit Go.Lib
def noSig : SigR := ⟨⟨#[]⟩, ⟨#[]⟩, ⟨#[]⟩⟩
def dashB : ByteArray := ⟨#[226, 128, 148, 32]⟩
/-- What the two words of a signature's line say. -/
def sigOf2 (nm code : ByteArray) : Option SigR :=
  if nameOk nm = true then match unb64V code with
    | some b => if b.size = 36 then some ⟨nm, b.extract 0 4, b.extract 4 36⟩ else none
    | none => none
  else none
/-- What a signature's line says. -/
def sigP (line : ByteArray) : Option SigR :=
  if hasPrefix line.data.toList [226, 128, 148, 32] = true then
    (if (Lib.cut (line.data.toList.drop 4) [32]).2.2 = true then sigOf2 ⟨(Lib.cut (line.data.toList.drop 4) [32]).1.toArray⟩ ⟨(Lib.cut (line.data.toList.drop 4) [32]).2.1.toArray⟩ else none)
  else none
def sigA (line : ByteArray) : Value := match sigP line with
  | some x => .tuple #[sigV x, .bool true]
  | none => .tuple #[sigV noSig, .bool false]
theorem sigA_some {l : ByteArray} {x : SigR} (h : sigP l = some x) : sigA l = .tuple #[sigV x, .bool true] := by unfold sigA; rw [h]
theorem sigA_none {l : ByteArray} (h : sigP l = none) : sigA l = .tuple #[sigV noSig, .bool false] := by unfold sigA; rw [h]
theorem cut_sizes (l sep : List UInt8) : (Lib.cut l sep).1.length ≤ l.length ∧ (Lib.cut l sep).2.1.length ≤ l.length := by
  unfold Lib.cut
  split
  · simp only [List.length_take, List.length_drop]; omega
  · simp
/-- The variable internal/bytealg.MaxLen holds a number. -/
def MaxOk (w : World) : Prop := ∃ m : Int, w.cell? ⟨6, 0, none⟩ = some (.int .i64 m)
theorem MaxOk.below {w w' : World} {B : Nat} (h : MaxOk w) (hb : Below B w w') (hB : 6 < B) : MaxOk w' := by
  obtain ⟨m, hm⟩ := h
  exact ⟨m, (hb.cell (p := ⟨6, 0, none⟩) hB).trans hm⟩
theorem MaxOk.lt {w : World} (h : MaxOk w) : 6 < w.heap.size := by
  obtain ⟨m, hm⟩ := h
  exact World.block_lt_of_cell? w _ hm
theorem results_sig {fn : Func} {p u : Tmp} (h : fn.results = #[.cell p 71, .tmp u]) (tmps : Array Value) (w : World) (g : Nat) (a b c : Value) (hp : tmps.getD p undef = .pointer (some ⟨g, 0, none⟩)) (hB : Blk w g 71 #[a, b, c]) :
    (results fn tmps).run Tryd.prog w = .ok (.tuple #[.agg #[a, b, c], tmps.getD u undef]) w := by
  rw [results_cell_tmp h, hp]
  have hl := run_loadVar_row (P := Tryd.prog) w g 71 71 #[a, b, c] (0, 0) _ hB Tryd.underlying71 rfl (by kernel_rfl)
  simp [asAddr, hl, Result.andThen]
set_option maxRecDepth 100000 in
set_option maxHeartbeats 4000000 in
theorem signed_any (l : ByteArray) (w : World) (hs : l.size ≤ 1048576) (hM : MaxOk w) :
    Calls Tryd.prog 93 #[.string l] w fun e w' => e = .returned (sigA l) ∧ Below w.heap.size w w' := by
  have hll : l.data.toList.length = l.size := Array.length_toList
  obtain ⟨m, hm⟩ := hM.below ((Below.refl _ _).alloc (Nat.le_refl _) (.cells #[.string ⟨#[]⟩, .string ⟨#[]⟩, .string ⟨#[]⟩] 71)) hM.lt
  have hB0 : Blk (w.alloc (.cells #[.string ⟨#[]⟩, .string ⟨#[]⟩, .string ⟨#[]⟩] 71)) w.heap.size 71 #[.string ⟨#[]⟩, .string ⟨#[]⟩, .string ⟨#[]⟩] := Blk.new w _ _
  have hb0 : Below w.heap.size w (w.alloc (.cells #[.string ⟨#[]⟩, .string ⟨#[]⟩, .string ⟨#[]⟩] 71)) := (Below.refl _ _).alloc (Nat.le_refl _) _
  have hcp := Tryd.strings_CutPrefix l ⟨#[226, 128, 148, 32]⟩ (w.alloc (.cells #[.string ⟨#[]⟩, .string ⟨#[]⟩, .string ⟨#[]⟩] 71))
  generalize hw0 : (w.alloc (.cells #[.string ⟨#[]⟩, .string ⟨#[]⟩, .string ⟨#[]⟩] 71)) = w0 at hm hB0 hb0 hcp
  have HW0 := Lib.hid hw0; clear hw0
  have hT : (trimPrefix l.data.toList [226, 128, 148, 32]).length ≤ l.size := by
    unfold trimPrefix
    split
    · rw [List.length_drop]; omega
    · omega
  have hsp : Hid (sigP l = if hasPrefix l.data.toList [226, 128, 148, 32] = true then
    (if (Lib.cut (trimPrefix l.data.toList [226, 128, 148, 32]) [32]).2.2 = true then sigOf2 ⟨(Lib.cut (trimPrefix l.data.toList [226, 128, 148, 32]) [32]).1.toArray⟩ ⟨(Lib.cut (trimPrefix l.data.toList [226, 128, 148, 32]) [32]).2.1.toArray⟩ else none)
  else none) := by
    unfold sigP
    rw [Hid]
    split
    · rename_i h
      rw [show trimPrefix l.data.toList [226, 128, 148, 32] = l.data.toList.drop 4 from by unfold trimPrefix; rw [if_pos h]; rfl]
    · rfl
  have hcp' : Calls Tryd.prog 111 #[.string l, .string ⟨#[226, 128, 148, 32]⟩] w0 fun e w' => e = .returned (.tuple #[.string ⟨(trimPrefix l.data.toList [226, 128, 148, 32]).toArray⟩, .bool (hasPrefix l.data.toList [226, 128, 148, 32])]) ∧ w' = w0 := hcp
  clear hcp
  generalize trimPrefix l.data.toList [226, 128, 148, 32] = T at *
  generalize hasPrefix l.data.toList [226, 128, 148, 32] = pf at *
  have hcs := cut_sizes T [32]
  have hct := Tryd.strings_Cut ⟨T.toArray⟩ ⟨#[32]⟩ m w0 (by show T.toArray.size < _; rw [List.size_toArray]; omega) hm
  have hct' : Calls Tryd.prog 112 #[.string ⟨T.toArray⟩, .string ⟨#[32]⟩] w0 fun e w' => e = .returned (.tuple #[.string ⟨(Lib.cut T [32]).1.toArray⟩, .string ⟨(Lib.cut T [32]).2.1.toArray⟩, .bool (Lib.cut T [32]).2.2]) ∧ ∃ n, w' = w0.drewN n := hct
  clear hct hm
  have hnz : (⟨(Lib.cut T [32]).1.toArray⟩ : ByteArray).size ≤ l.size := by show (Lib.cut T [32]).1.toArray.size ≤ _; rw [List.size_toArray]; omega
  have hcz : (⟨(Lib.cut T [32]).2.1.toArray⟩ : ByteArray).size ≤ l.size := by show (Lib.cut T [32]).2.1.toArray.size ≤ _; rw [List.size_toArray]; omega
  generalize (⟨(Lib.cut T [32]).1.toArray⟩ : ByteArray) = nm at *
  generalize (⟨(Lib.cut T [32]).2.1.toArray⟩ : ByteArray) = code at *
  generalize (Lib.cut T [32]).2.2 = th at *
  have hna := fun W => name_any nm W (by simp only [maxLen]; omega)
  have hub := fun W => unb_any code W (by omega)
  have HC := hide (And.intro hcp' hct'); have HN := hide (And.intro hna hub); have H0 := hide (And.intro hB0 hb0)
  clear hcp' hct' hna hub hB0 hb0 hcs hT
  go_enter Tryd.func93, Tryd.ntmps93
  go_wp2_with fail
  rw [HW0.out]
  refine (unhide HC).1.mono ?_
  rintro e w1 ⟨rfl, rfl⟩
  go_wp2_with fail
  refine (unhide HC).2.mono ?_
  rintro e w2 ⟨rfl, nd, rfl⟩
  have hB2 : Blk (w1.drewN nd) w.heap.size 71 #[.string ⟨#[]⟩, .string ⟨#[]⟩, .string ⟨#[]⟩] := (unhide H0).1.drewN nd
  have hb2 := below_drewN (unhide H0).2 nd
  generalize w1.drewN nd = w2 at *
  have r0 := hB2.cell 0; have r1 := hB2.cell 1; have r2 := hB2.cell 2; have f0 := hB2.frozen 0; have f1 := hB2.frozen 1; have f2 := hB2.frozen 2
  simp only [List.getElem?_toArray, List.getElem?_cons_zero, List.getElem?_cons_succ] at r0 r1 r2
  have hB3 := blk3_store hB2 (.string ⟨#[]⟩) (.string ⟨#[]⟩) (.string ⟨#[]⟩)
  have hb3 := below3_store hb2 (Nat.le_refl w.heap.size) (.string ⟨#[]⟩) (.string ⟨#[]⟩) (.string ⟨#[]⟩)
  have H2 := hide (And.intro hB2 (And.intro hb2 (And.intro hB3 hb3))); clear hB2 hb2 hB3 hb3 H0 HC HW0
  cases pf with
  | false =>
    have hsp' : Hid (sigA l = .tuple #[sigV noSig, .bool false]) := sigA_none (by rw [hsp.out]; rfl)
    go_wp2_with fail
    (try simp only [Exit.inBlock, Exit.then])
    refine bodyPost_ret (results_sig rfl _ _ w.heap.size _ _ _ rfl (unhide H2).2.2.1) rfl ?_
    exact ⟨by rw [hsp'.out]; rfl, (unhide H2).2.2.2⟩
  | true =>
    cases th with
    | false =>
      have hsp' : Hid (sigA l = .tuple #[sigV noSig, .bool false]) := sigA_none (by rw [hsp.out]; rfl)
      go_wp2_with fail
      (try simp only [Exit.inBlock, Exit.then])
      refine bodyPost_ret (results_sig rfl _ _ w.heap.size _ _ _ rfl (unhide H2).2.2.1) rfl ?_
      exact ⟨by rw [hsp'.out]; rfl, (unhide H2).2.2.2⟩
    | true =>
      have hsp2 : Hid (sigP l = sigOf2 nm code) := by rw [Hid, hsp.out]; rfl
      clear hsp
      go_wp2_with fail
      refine ((unhide HN).1 w2).mono ?_
      rintro e w3 ⟨rfl, rfl⟩
      by_cases hno : nameOk nm = true
      · rw [hno]
        go_wp2_with fail
        have hub := (unhide HN).2 w2
        clear r0 r1 r2 f0 f1 f2
        cases hv : unb64V code with
        | none =>
          rw [unbA_none hv] at hub
          have hsp' : Hid (sigA l = .tuple #[sigV noSig, .bool false]) := sigA_none (by rw [hsp2.out]; unfold sigOf2; rw [if_pos hno, hv])
          have HU := hide hub; clear hub
          refine (unhide HU).mono ?_
          rintro e w3 ⟨rfl, hb3⟩
          have hB3 := (unhide H2).1.below hb3 (unhide H2).1.lt
          have hb3' := (unhide H2).2.1.trans (hb3.mono (unhide H2).2.1.size)
          have r0 := hB3.cell 0; have r1 := hB3.cell 1; have r2 := hB3.cell 2; have f0 := hB3.frozen 0; have f1 := hB3.frozen 1; have f2 := hB3.frozen 2
          simp only [List.getElem?_toArray, List.getElem?_cons_zero, List.getElem?_cons_succ] at r0 r1 r2
          have H3 := hide (And.intro (blk3_store hB3 (.string ⟨#[]⟩) (.string ⟨#[]⟩) (.string ⟨#[]⟩)) (below3_store hb3' (Nat.le_refl w.heap.size) (.string ⟨#[]⟩) (.string ⟨#[]⟩) (.string ⟨#[]⟩)))
          clear hB3 hb3 hb3'
          go_wp2_with fail
          (try simp only [Exit.inBlock, Exit.then])
          refine bodyPost_ret (results_sig rfl _ _ w.heap.size _ _ _ rfl (unhide H3).1) rfl ?_
          exact ⟨by rw [hsp'.out]; rfl, (unhide H3).2⟩
        | some b =>
          rw [unbA_some hv] at hub
          have HU := hide hub; clear hub
          refine (unhide HU).mono ?_
          rintro e w3 ⟨rfl, hb3⟩
          have hB3 := (unhide H2).1.below hb3 (unhide H2).1.lt
          have hb3' := (unhide H2).2.1.trans (hb3.mono (unhide H2).2.1.size)
          have r0 := hB3.cell 0; have r1 := hB3.cell 1; have r2 := hB3.cell 2; have f0 := hB3.frozen 0; have f1 := hB3.frozen 1; have f2 := hB3.frozen 2
          simp only [List.getElem?_toArray, List.getElem?_cons_zero, List.getElem?_cons_succ] at r0 r1 r2
          by_cases h36 : b.size = 36
          · have hsp' : Hid (sigA l = .tuple #[sigV ⟨nm, b.extract 0 4, b.extract 4 36⟩, .bool true]) := sigA_some (by rw [hsp2.out]; unfold sigOf2; rw [if_pos hno, hv]; show (if b.size = 36 then _ else _) = _; rw [if_pos h36])
            have H3 := hide (And.intro (blk3_store hB3 (.string nm) (.string (b.extract 0 4)) (.string (b.extract 4 36))) (below3_store hb3' (Nat.le_refl w.heap.size) (.string nm) (.string (b.extract 0 4)) (.string (b.extract 4 36))))
            clear hB3 hb3 hb3'
            have h36' : ((b.size : Int) == 36) = true := by rw [beq_iff_eq]; omega
            have i1 : (4 : Int) ≤ (b.size : Int) := by omega
            go_wp2_with fail
            go_region
            go_wp2_with fail
            (try simp only [Exit.inBlock, Exit.then])
            refine bodyPost_ret (results_sig rfl _ _ w.heap.size _ _ _ rfl (unhide H3).1.drew) rfl ?_
            exact ⟨by rw [hsp'.out]; rfl, (unhide H3).2.drew⟩
          · have hsp' : Hid (sigA l = .tuple #[sigV noSig, .bool false]) := sigA_none (by rw [hsp2.out]; unfold sigOf2; rw [if_pos hno, hv]; show (if b.size = 36 then _ else _) = _; rw [if_neg h36])
            have h36' : ((b.size : Int) == 36) = false := by rw [beq_eq_false_iff_ne]; omega
            have H3 := hide (And.intro (blk3_store hB3 (.string ⟨#[]⟩) (.string ⟨#[]⟩) (.string ⟨#[]⟩)) (below3_store hb3' (Nat.le_refl w.heap.size) (.string ⟨#[]⟩) (.string ⟨#[]⟩) (.string ⟨#[]⟩)))
            clear hB3 hb3 hb3'
            go_wp2_with fail
            (try simp only [Exit.inBlock, Exit.then])
            refine bodyPost_ret (results_sig rfl _ _ w.heap.size _ _ _ rfl (unhide H3).1) rfl ?_
            exact ⟨by rw [hsp'.out]; rfl, (unhide H3).2⟩
      · have hno' : nameOk nm = false := by simpa using hno
        have hsp' : Hid (sigA l = .tuple #[sigV noSig, .bool false]) := sigA_none (by rw [hsp2.out]; unfold sigOf2; rw [if_neg hno])
        rw [hno']
        go_wp2_with fail
        (try simp only [Exit.inBlock, Exit.then])
        refine bodyPost_ret (results_sig rfl _ _ w.heap.size _ _ _ rfl (unhide H2).2.2.1) rfl ?_
        exact ⟨by rw [hsp'.out]; rfl, (unhide H2).2.2.2⟩
end Go.Proofs.YtfhaoamlagnpjaaDoor

set_option linter.unusedVariables false
namespace Go.Proofs.YtfhaoamlagnpjaaDoor
open Go.RowKit
/-- What is said between two rounds abides the iterator's store into its block B, and the turn of the law's own blocks. -/
def Mild {β : Type} (B n : Nat) (I : β → World → Prop) : Prop :=
  ∀ s W W' row, I s W → W.grownBy W' row → (∀ r, row = some r → r = B ∨ (n ≤ r ∧ ∃ o : Obj, W.heap[r]? = some o ∧ o.isCells = false)) → I s W'
theorem Mild.step {β : Type} {B n : Nat} {I : β → World → Prop} (h : Mild B n I) {s : β} {W W' : World} (hs : I s W) (hg : W.grownBy W' (some B)) : I s W' :=
  h s W W' _ hs hg (fun r e => by cases e; exact .inl rfl)
theorem Mild.turn {β : Type} {B n : Nat} {I : β → World → Prop} (h : Mild B n I) {s : β} {W : World} {l : Nat} {o : Obj} (o' : Obj) (hs : I s W) (hn : n ≤ l) (hl : W.heap[l]? = some o) (ho : o.isCells = false) : I s (W.putObj l o') :=
  h s W _ (some l) hs (grownBy_putObj' W l o') (fun r e => by cases e; exact .inr ⟨hn, o, hl, ho⟩)
theorem Mild.more {β : Type} {B n : Nat} {I : β → World → Prop} (h : Mild B n I) {s : β} {W : World} (o : Obj) (hs : I s W) : I s (W.alloc o) :=
  h s W _ none hs (World.grownBy_alloc W o none) (fun r e => by cases e)
/-- THE CONTRACT of such an iterator: it hands on the elements of xs one after the other; between two rounds it turns block B alone. -/
def SeqCell {α : Type} (F : Fence) (n : Nat) (P : Program) (g : Nat) (lb : Array Value) (encs : α → Array Value) (B : Nat) (xs : List α) (w : World) : Prop :=
  ∀ (l : Nat) (J Jx : List α → World → Prop) (W : World), W.heap[B]? = w.heap[B]? → (∀ s W W', J s W → W.grownBy W' (some B) → J s W') →
    (∀ pre x W1, J pre W1 → pre ++ [x] <+: xs → YieldAt F (n - 1) P l (encs x) W1 fun e W' =>
      (e = .returned (.bool true) ∧ J (pre ++ [x]) W' ∧ W'.heap[B]? = W1.heap[B]?) ∨ (e = .returned (.bool false) ∧ Jx (pre ++ [x]) W')) →
    J [] W →
    CallsIn F n P g (#[.func (.yield l) #[] #[]] ++ lb) W fun e W' => (∃ v, e = .returned v) ∧ (J xs W' ∨ ∃ pre, pre <+: xs ∧ Jx pre W')
def cellPost {α : Type} (B : Nat) (I : List α → World → Prop) (Ix : Code → List α → World → Prop) (s : List α) (W : World) : Exit → Act → World → Prop
  | .normal, _, W' => KeepsOthers W W' ∧ W'.heap[B]? = W.heap[B]? ∧ I s W'
  | .ret, _, W' => KeepsOthers W W' ∧ Ix .ret s W'
  | .exit id, _, W' => KeepsOthers W W' ∧ Ix (.exit id) s W'
  | .goto t, _, W' => KeepsOthers W W' ∧ Ix (.goto t) s W'
  | .panic _, _, _ => False
  | .outgrown, _, _ => False
variable {F : Fence} {n : Nat} {P : Program}
/-- The loop's record as it lies. -/
def recOf (fn : FuncId) (tmps : Array Value) (ps : Array Tmp) (assign body : Code) (D : Nat) (st : LoopState) (pe : Option Code) : Loop :=
  { state := st, pending := pe, fn, tmps, params := ps, assign, body, defers := D }
theorem wpIn_range_cell {α : Type} {g : Operand} {ps : Array Tmp} {assign body : Code} {Q : Exit → Act → World → Prop} {a : Act} {w : World}
    (hro : F.round = none) (h1 : 1 ≤ n) {gf : Nat} {lb : Array Value} (hg : a.eval g = .func (.func gf) #[] lb) (hFg : F.fn gf) (eg : ∀ args w, (callFunc gf args).run P w = .ok (.enter gf args) w)
    {encs : α → Array Value} {B : Nat} (hB : B < w.heap.size) {xs : List α} (hseq : SeqCell F (n - 1) P gf lb encs B xs w) (hps : ∀ x, (encs x).size = ps.size)
    (I : List α → World → Prop) (Ix : Code → List α → World → Prop) (hI : Mild B w.heap.size I) (hIx : ∀ c, Mild B w.heap.size (Ix c)) (h0 : I [] w) (a₁ : α → Act)
    (hassign : ∀ (l : Nat) (x : α) (W : World) (K : Act → World → Prop), K (a₁ x) W →
      assign.wpIn (F.inRound l) (n - 1 - 1) P (Exit.then K (fun _ _ _ => False)) { tmps := (ps.zip (encs x)).foldl (fun t (p, v) => t.setIfInBounds p v) a.tmps, defers := [] } W)
    (hbody : ∀ (l : Nat) (pre : List α) (x : α) (W : World), I pre W → pre ++ [x] <+: xs → body.wpIn (F.inRound l) (n - 1 - 1) P (cellPost B I Ix (pre ++ [x]) W) (a₁ x) W)
    (hdone : ∀ (D : Nat) (W : World), w.heap.size ≤ D → I xs W → W.heap[D]? = some (.deferred (some [])) → Q .normal { a with defers := { target := .collected D, args := #[] } :: a.defers } W)
    (hstop : ∀ (D : Nat) (c : Code) (pre : List α) (W : World), w.heap.size ≤ D → pre <+: xs → Ix c pre W → W.heap[D]? = some (.deferred (some [])) → c.wpIn F n P Q { a with defers := { target := .collected D, args := #[] } :: a.defers } W) :
    (Code.rangeFunc g ps assign body).wpIn F n P Q a w := by
  refine wpIn_rangeFunc fun fn hfn => ?_
  rw [hro]
  have hrec : ∀ (W : World) (D : Nat), (Instr.enterLoop fn a.tmps ps assign body none).run P w = .ok (w.heap.size + 1, [{ target := .collected w.heap.size, args := #[] }]) ((w.alloc (.deferred (some []))).alloc (.loop (recOf fn a.tmps ps assign body w.heap.size .ready none))) := fun _ _ => run_enterLoop_outer _ _ _ _ _
  have hL1 : ((w.alloc (.deferred (some []))).alloc (.loop (recOf fn a.tmps ps assign body w.heap.size .ready none))).heap[w.heap.size + 1]? = some (.loop (recOf fn a.tmps ps assign body w.heap.size .ready none)) := by
    have := World.alloc_heap_new (w.alloc (.deferred (some []))) (.loop (recOf fn a.tmps ps assign body w.heap.size .ready none)); rwa [World.size_alloc] at this
  have hK1 : ((w.alloc (.deferred (some []))).alloc (.loop (recOf fn a.tmps ps assign body w.heap.size .ready none))).heap[w.heap.size]? = some (.deferred (some [])) :=
    (Below.heap_alloc _ _ _ (by simp)).trans (World.alloc_heap_new w _)
  have hBB : ((w.alloc (.deferred (some []))).alloc (.loop (recOf fn a.tmps ps assign body w.heap.size .ready none))).heap[B]? = w.heap[B]? :=
    (Below.heap_alloc _ _ _ (by simp; omega)).trans (Below.heap_alloc _ _ _ hB)
  have hI1 := hI.more (.loop (recOf fn a.tmps ps assign body w.heap.size .ready none)) (hI.more (.deferred (some [])) h0)
  have hrec := hrec w 0
  generalize hW1 : (w.alloc (.deferred (some []))).alloc (.loop (recOf fn a.tmps ps assign body w.heap.size .ready none)) = W1 at *
  refine ⟨w.heap.size + 1, [{ target := .collected w.heap.size, args := #[] }], W1, { target := .fn (.func gf) lb, args := #[.func (.yield (w.heap.size + 1)) #[] #[]] }, W1, gf,
    #[.func (.yield (w.heap.size + 1)) #[] #[]] ++ lb, W1, hrec, ?_, ?_, ?_, fun _ => h1, ?_⟩
  · simp only [resolve, hg]
    simp [go_sem]
  · intro f' hf'; simp [Target.leads] at hf'; subst hf'; exact hFg
  · simp [invoke, go_sem, eg]
  have keeps : ∀ {A C : World} {k : Nat} {o : Obj}, A.grownBy C (some B) → k ≠ B → A.heap[k]? = some o → C.heap[k]? = some o := fun hg' hk ho =>
    (hg'.block _ (Array.getElem?_eq_some_iff.1 ho).1 (fun e => hk (by cases e; rfl))).trans ho
  refine (hseq (w.heap.size + 1)
    (fun pre W => I pre W ∧ W.heap[w.heap.size + 1]? = some (.loop (recOf fn a.tmps ps assign body w.heap.size .ready none)) ∧ W.heap[w.heap.size]? = some (.deferred (some [])))
    (fun pre W => ∃ c, Ix c pre W ∧ W.heap[w.heap.size + 1]? = some (.loop (recOf fn a.tmps ps assign body w.heap.size .done (some c))) ∧ W.heap[w.heap.size]? = some (.deferred (some [])))
    W1 hBB (fun s A C hs hg' => ⟨hI.step hs.1 hg', keeps hg' (by omega) hs.2.1, keeps hg' (by omega) hs.2.2⟩) ?_ ⟨hI1, hL1, hK1⟩).mono ?_
  · rintro pre x W ⟨hi, hl, hk⟩ hpre
    have hlt : w.heap.size + 1 < W.heap.size := (Array.getElem?_eq_some_iff.1 hl).1
    have hy := run_yield (P := P) (args := encs x) hl (by exact hps x)
    refine ⟨fn, _, assign, body, hy, roundIn_of_wpIn hfn (hassign _ x W _ ⟨_, run_beginRound hl rfl, ?_⟩)⟩
    have hl2 : (W.putObj (w.heap.size + 1) (.loop (recOf fn a.tmps ps assign body w.heap.size .busy none))).heap[w.heap.size + 1]? = some (.loop (recOf fn a.tmps ps assign body w.heap.size .busy none)) := World.putObj_heap_same hlt
    have hk2 : (W.putObj (w.heap.size + 1) (.loop (recOf fn a.tmps ps assign body w.heap.size .busy none))).heap[w.heap.size]? = some (.deferred (some [])) := (World.putObj_heap_other (by omega)).trans hk
    have hb2 : (W.putObj (w.heap.size + 1) (.loop (recOf fn a.tmps ps assign body w.heap.size .busy none))).heap[B]? = W.heap[B]? := World.putObj_heap_other (by omega)
    refine wpIn_mono (hbody _ pre x _ (hI.turn _ hi (by omega) hl rfl) hpre) ?_
    have fin : ∀ (jump : Option Code) (W3 : World), KeepsOthers (W.putObj (w.heap.size + 1) (.loop (recOf fn a.tmps ps assign body w.heap.size .busy none))) W3 →
        (Instr.endRound (w.heap.size + 1) jump).run P W3 = .ok (.bool jump.isNone) (W3.putObj (w.heap.size + 1) (.loop (recOf fn a.tmps ps assign body w.heap.size (if jump.isNone then .ready else .done) jump))) ∧
        W3.heap[w.heap.size + 1]? = some (.loop (recOf fn a.tmps ps assign body w.heap.size .busy none)) ∧
        (W3.putObj (w.heap.size + 1) (.loop (recOf fn a.tmps ps assign body w.heap.size (if jump.isNone then .ready else .done) jump))).heap[w.heap.size + 1]? = some (.loop (recOf fn a.tmps ps assign body w.heap.size (if jump.isNone then .ready else .done) jump)) ∧
        (W3.putObj (w.heap.size + 1) (.loop (recOf fn a.tmps ps assign body w.heap.size (if jump.isNone then .ready else .done) jump))).heap[w.heap.size]? = some (.deferred (some [])) := fun jump W3 hk3 => by
      have hl3 := hk3.same _ _ hl2 rfl
      exact ⟨run_endRound (P := P) jump hl3, hl3, World.putObj_heap_same (Array.getElem?_eq_some_iff.1 hl3).1, (World.putObj_heap_other (by omega)).trans (hk3.same _ _ hk2 rfl)⟩
    rintro e a3 W3 hp
    cases e with
    | normal =>
      obtain ⟨hk3, hb3, hi3⟩ := hp
      obtain ⟨hr, hl3, hl4, hk4⟩ := fin none W3 hk3
      exact ⟨_, _, hr, .inl ⟨rfl, ⟨hI.turn _ hi3 (by omega) hl3 rfl, hl4, hk4⟩, ((World.putObj_heap_other (by omega)).trans hb3).trans hb2⟩⟩
    | ret =>
      obtain ⟨hk3, hi3⟩ := hp
      obtain ⟨hr, hl3, hl4, hk4⟩ := fin (some .ret) W3 hk3
      exact ⟨_, _, hr, .inr ⟨rfl, .ret, (hIx _).turn _ hi3 (by omega) hl3 rfl, hl4, hk4⟩⟩
    | exit id =>
      obtain ⟨hk3, hi3⟩ := hp
      obtain ⟨hr, hl3, hl4, hk4⟩ := fin (some (.exit id)) W3 hk3
      exact ⟨_, _, hr, .inr ⟨rfl, .exit id, (hIx _).turn _ hi3 (by omega) hl3 rfl, hl4, hk4⟩⟩
    | goto t =>
      obtain ⟨hk3, hi3⟩ := hp
      obtain ⟨hr, hl3, hl4, hk4⟩ := fin (some (.goto t)) W3 hk3
      exact ⟨_, _, hr, .inr ⟨rfl, .goto t, (hIx _).turn _ hi3 (by omega) hl3 rfl, hl4, hk4⟩⟩
    | panic ch => exact hp.elim
    | outgrown => exact hp.elim
  · rintro e W2 ⟨⟨v, rfl⟩, (⟨hi, hl, hk⟩ | ⟨pre, hpre, c, hi, hl, hk⟩)⟩
    · exact ⟨none, _, run_endLoop (P := P) hl (by simp [recOf]), hdone _ _ (Nat.le_refl _) (hI.turn _ hi (by omega) hl rfl) ((World.putObj_heap_other (by omega)).trans hk)⟩
    · exact ⟨some c, _, run_endLoop (P := P) hl (by simp [recOf]), hstop _ c pre _ (Nat.le_refl _) hpre ((hIx c).turn _ hi (by omega) hl rfl) ((World.putObj_heap_other (by omega)).trans hk)⟩
end Go.Proofs.YtfhaoamlagnpjaaDoor

set_option linter.unusedVariables false
set_option linter.unusedSimpArgs false
namespace Go.Proofs.YtfhaoamlagnpjaaDoor
open Go.RowKit Go.Lib
attribute [local go_sem] Oper.semAt_some
/-- Where a text's last line begins. -/
def atOf (s : ByteArray) : Nat := (Lib.lastIndexByte (s.extract 0 (s.size - 1)) 10 + 1).toNat
theorem lastIdx_le (s : ByteArray) (c : Int) (k : Nat) : -1 ≤ Lib.lastIdx s c k ∧ Lib.lastIdx s c k < k := by
  rcases Lib.lastIdx_spec s c k with ⟨h, _⟩ | ⟨i, hi, h, _⟩ <;> omega
theorem atOf_int (s : ByteArray) (h : 0 < s.size) : Lib.lastIndexByte (s.extract 0 (s.size - 1)) 10 + 1 = (atOf s : Int) ∧ atOf s ≤ s.size - 1 := by
  have h1 := lastIdx_le (s.extract 0 (s.size - 1)) 10 (s.extract 0 (s.size - 1)).size
  have h2 : (s.extract 0 (s.size - 1)).size = s.size - 1 := by rw [ByteArray.size_extract]; omega
  unfold atOf
  unfold Lib.lastIndexByte at *
  omega
def fromEndF : Nat → ByteArray → List (Nat × ByteArray)
  | 0, _ => []
  | f + 1, s => if s.size = 0 then [] else (atOf s, s.extract (atOf s) (s.size - 1)) :: fromEndF f (s.extract 0 (atOf s))
theorem fromEndF_more : ∀ (f g : Nat) (s : ByteArray), s.size ≤ f → s.size ≤ g → fromEndF f s = fromEndF g s
  | 0, 0, _, _, _ => rfl
  | 0, g + 1, s, hf, _ => by simp [fromEndF, Nat.le_zero.1 hf]
  | f + 1, 0, s, _, hg => by simp [fromEndF, Nat.le_zero.1 hg]
  | f + 1, g + 1, s, hf, hg => by
    simp only [fromEndF]
    split
    · rfl
    · rename_i h
      have hp : 0 < s.size := Nat.pos_of_ne_zero h
      have ha := (atOf_int s hp).2
      have hs : (s.extract 0 (atOf s)).size = atOf s := by rw [ByteArray.size_extract]; omega
      rw [fromEndF_more f g _ (by omega) (by omega)]
def fromEndL (s : ByteArray) : List (Nat × ByteArray) := fromEndF s.size s
theorem fromEndL_none {s : ByteArray} (h : s.size = 0) : fromEndL s = [] := by rw [fromEndL, h]; rfl
theorem fromEndL_step {s : ByteArray} (h : 0 < s.size) : fromEndL s = (atOf s, s.extract (atOf s) (s.size - 1)) :: fromEndL (s.extract 0 (atOf s)) := by
  have ha := (atOf_int s h).2
  have hs : (s.extract 0 (atOf s)).size = atOf s := by rw [ByteArray.size_extract]; omega
  obtain ⟨f, hf⟩ : ∃ f, s.size = f + 1 := ⟨s.size - 1, by omega⟩
  rw [fromEndL, hf, fromEndF, if_neg (by omega), fromEndL, fromEndF_more f (s.extract 0 (atOf s)).size _ (by omega) (Nat.le_refl _), hf]
/-- How much is left. -/
def leftB (B : Nat) (w : World) : Nat := match w.cell? ⟨B, 0, none⟩ with | some (.string x) => x.size | _ => 0
theorem leftB_eq {B : Nat} {w : World} {x : ByteArray} (h : w.cell? ⟨B, 0, none⟩ = some (.string x)) : leftB B w = x.size := by rw [leftB, h]
def encLine (x : Nat × ByteArray) : Array Value := #[.int .i64 (x.1 : Int), .string x.2]
set_option maxRecDepth 100000 in
set_option maxHeartbeats 1000000 in
theorem fromEnd_cell (n : Nat) (hn : 1 ≤ n) (B : Nat) (s : ByteArray) (w : World) (hs : s.size ≤ 1099511627776) (hB : Blk w B 9 #[.string s]) :
    SeqCell Fence.wide n Tryd.prog 109 #[.pointer (some ⟨B, 0, none⟩)] encLine B (fromEndL s) w := by
  intro l J Jx W hW hJ hY h0
  refine callsIn_of_wp Tryd.func109 rfl trivial ?_ rfl
  simp only [Tryd.ntmps109, List.size_toArray, List.length_cons, List.length_nil, Nat.reduceAdd, Nat.reduceSub, Array.replicate_succ, Array.replicate_zero, List.push_toArray, List.append_toArray, List.nil_append, List.cons_append]
  have hB1 : Blk W B 9 #[.string s] := hW.trans hB
  gi_wp2
  gi_loopw [3] (fun p wr => ∃ (s' : ByteArray) (pre : List (Nat × ByteArray)), s'.size ≤ s.size ∧ Hid (pre ++ fromEndL s' = fromEndL s) ∧ Blk wr B 9 #[.string s'] ∧ J pre wr) (fun p wr => leftB B wr)
  case atStart => exact ⟨s, [], Nat.le_refl _, Lib.hid (by simp), hB1, h0⟩
  case round =>
    obtain ⟨s', pre, hle, hx, hb, hj⟩ := hrel
    have c0 := hb.cell 0
    have f0 := hb.frozen 0
    simp only [List.getElem?_toArray, List.getElem?_cons_zero] at c0
    rcases Nat.eq_zero_or_pos s'.size with h0' | h0'
    · have hi : ¬ (0 : Int) < (s'.size : Int) := by omega
      have hnil := fromEndL_none h0'
      rw [hnil] at hx
      have hx' := hx.out
      rw [List.append_nil] at hx'
      subst hx'
      gi_wp2
      go_end0
      exact ⟨⟨_, rfl⟩, .inl hj⟩
    · have hi : (0 : Int) < (s'.size : Int) := by omega
      obtain ⟨ha1, ha2⟩ := atOf_int s' h0'
      have hst := fromEndL_step h0'
      have hsz : (s'.extract 0 (s'.size - 1)).size < 4611686018427387904 := by rw [ByteArray.size_extract]; omega
      have hpre : pre ++ [(atOf s', s'.extract (atOf s') (s'.size - 1))] <+: fromEndL s := by
        rw [← hx.out, hst]
        exact ⟨fromEndL (s'.extract 0 (atOf s')), by simp⟩
      obtain ⟨fn, tmps, assign, body, hy, hR⟩ := hY pre _ wr hj hpre
      dsimp only [encLine] at hy
      rw [hst] at hx
      have hli := Tryd.strings_LastIndexByte _ 10 hsz wr
      generalize atOf s' = k at *
      have HX := Lib.hid hx.out
      clear hx hst hpre
      gi_wp2_with (refine ⟨trivial, (callsIn_wide.2 hli).mono ?_⟩; clear hli; rintro e w1 ⟨rfl, rfl⟩)
      have HB := hide hb; clear hb c0 f0
      have hcat : (pre ++ [(k, s'.extract k (s'.size - 1))]) ++ fromEndL (s'.extract 0 k) = fromEndL s := by rw [← HX.out]; simp
      have hke : (s'.extract 0 k).size = k := by rw [ByteArray.size_extract]; omega
      have hki : (k : Int) ≤ (s'.size : Int) := by omega
      refine hR.mono ?_
      rintro e W3 (⟨rfl, hJ3, hk3⟩ | ⟨rfl, hJx3⟩)
      · have hb3 : Blk W3 B 9 #[.string s'] := hk3.trans (unhide HB)
        have c3 := hb3.cell 0
        have f3 := hb3.frozen 0
        simp only [List.getElem?_toArray, List.getElem?_cons_zero] at c3
        gi_wp2
        go_roundw
        case rel =>
          refine ⟨s'.extract 0 k, pre ++ [(k, s'.extract k (s'.size - 1))], by omega, Lib.hid hcat, ?_, hJ _ _ _ hJ3 (grownBy_setCell' _ _ _)⟩
          exact hb3.set_ 0 (.string (s'.extract 0 k))
        case measure =>
          have e1 : leftB B (W3.setCell ⟨B, 0, none⟩ (.string (s'.extract 0 k))) = k := by
            have hb4 := hb3.set_ 0 (.string (s'.extract 0 k))
            rw [leftB_eq (x := s'.extract 0 k) (by have := hb4.cell 0; simpa using this), hke]
          have e2 : leftB B w1 = s'.size := leftB_eq (by have := (unhide HB).cell 0; simpa using this)
          omega
      · gi_wp2
        refine bodyPost_ret (results_none rfl _ _ _) rfl ?_
        exact ⟨⟨_, rfl⟩, .inr ⟨_, ⟨_, hcat⟩, hJx3⟩⟩
end Go.Proofs.YtfhaoamlagnpjaaDoor

set_option linter.unusedVariables false
set_option linter.unusedSimpArgs false
namespace Go.Proofs.YtfhaoamlagnpjaaDoor
open Go.RowKit
/-- A row parted at each c. -/
def splL (c : UInt8) : List UInt8 → List (List UInt8)
  | [] => [[]]
  | x :: r => if x = c then [] :: splL c r else match splL c r with
    | h :: t => (x :: h) :: t
    | [] => [[x]]
theorem splL_ne (c : UInt8) : ∀ l, splL c l ≠ []
  | [] => by simp [splL]
  | x :: r => by
    simp only [splL]
    split
    · simp
    · split <;> simp
theorem splL_free (c : UInt8) : ∀ a : List UInt8, c ∉ a → splL c a = [a]
  | [], _ => rfl
  | x :: r, h => by
    have h1 : ¬ x = c := fun e => h (by simp [e])
    have h2 : c ∉ r := fun e => h (by simp [e])
    simp only [splL, if_neg h1, splL_free c r h2]
theorem splL_at (c : UInt8) : ∀ a b : List UInt8, c ∉ a → splL c (a ++ c :: b) = a :: splL c b
  | [], b, _ => by simp [splL]
  | x :: r, b, h => by
    have h1 : ¬ x = c := fun e => h (by simp [e])
    have h2 : c ∉ r := fun e => h (by simp [e])
    simp only [List.cons_append, splL, if_neg h1, splL_at c r b h2]
theorem splL_last (c : UInt8) : ∀ l : List UInt8, splL c (l ++ [c]) = splL c l ++ [[]]
  | [] => by simp [splL]
  | x :: r => by
    have ih := splL_last c r
    have hn := splL_ne c r
    simp only [List.cons_append, splL, ih]
    split
    · rfl
    · cases h : splL c r with
      | nil => exact absurd h hn
      | cons y t => rfl
/-- What lies between two places. -/
def segL (l : List UInt8) (a b : Nat) : List UInt8 := (l.drop a).take (b - a)
theorem splL_step (c : UInt8) (l : List UInt8) (a b : Nat) (hab : a ≤ b) (hb : b < l.length) (hc : l[b] = c) (hf : ∀ j (hj : j < l.length), a ≤ j → j < b → l[j] ≠ c) :
    splL c (l.drop a) = segL l a b :: splL c (l.drop (b + 1)) := by
  have e : l.drop a = segL l a b ++ c :: l.drop (b + 1) := by
    have h1 : l.drop a = (l.drop a).take (b - a) ++ (l.drop a).drop (b - a) := (List.take_append_drop _ _).symm
    rw [List.drop_drop, show a + (b - a) = b from by omega, List.drop_eq_getElem_cons hb, hc] at h1
    exact h1
  rw [e, splL_at]
  intro hm
  obtain ⟨j, hj, hx⟩ := List.mem_iff_getElem.1 hm
  unfold segL at hj hx
  rw [List.getElem_take, List.getElem_drop] at hx
  rw [List.length_take, List.length_drop] at hj
  exact hf (a + j) (by omega) (by omega) (by omega) hx
theorem splL_end (c : UInt8) (l : List UInt8) (a : Nat) (hf : ∀ j (hj : j < l.length), a ≤ j → l[j] ≠ c) : splL c (l.drop a) = [l.drop a] := by
  refine splL_free c _ fun hm => ?_
  obtain ⟨j, hj, hx⟩ := List.mem_iff_getElem.1 hm
  rw [List.getElem_drop] at hx
  rw [List.length_drop] at hj
  exact hf (a + j) (by omega) (by omega) hx
theorem splL_length (c : UInt8) : ∀ l : List UInt8, (splL c l).length ≤ l.length + 1
  | [] => by simp [splL]
  | x :: r => by
    have ih := splL_length c r
    simp only [splL]
    split
    · simp; omega
    · cases h : splL c r with
      | nil => simp
      | cons y t => rw [h] at ih; simp at ih ⊢; omega
theorem splL_join (c : UInt8) : ∀ l : List UInt8, (splL c l).flatMap (fun x => x ++ [c]) = l ++ [c]
  | [] => by simp [splL]
  | x :: r => by
    have ih := splL_join c r
    have hn := splL_ne c r
    simp only [splL]
    split
    · rename_i h; subst h; simp [ih]
    · cases h : splL c r with
      | nil => exact absurd h hn
      | cons y t => rw [h] at ih; simp at ih ⊢; exact ih
theorem splL_mem (c : UInt8) (l x : List UInt8) (h : x ∈ splL c l) : x.length ≤ l.length := by
  have hj := congrArg List.length (splL_join c l)
  obtain ⟨s, t, e⟩ := List.append_of_mem h
  rw [e] at hj
  simp at hj
  omega
def bsL (l : List UInt8) : ByteArray := ⟨l.toArray⟩
/-- The lines of a text; none: it does not end with a newline. -/
def linesV (s : ByteArray) : Option (List ByteArray) :=
  if s.size = 0 then some [] else if s.data.toList.getLast? = some 10 then some ((splL 10 s.data.toList.dropLast).map bsL) else none
theorem linesV_some (l : List UInt8) : linesV (bsL (l ++ [10])) = some ((splL 10 l).map bsL) := by
  unfold linesV
  rw [if_neg (by simp [bsL, ByteArray.size])]
  simp [bsL]
/-- The document's way: what lies behind the last newline is told by its length. -/
theorem linesV_parts (s : ByteArray) (from_ : Nat) (out : List (List UInt8)) (hf : from_ ≤ s.size) (h : splL 10 s.data.toList = out ++ [s.data.toList.drop from_]) :
    linesV s = if from_ < s.size then none else some (out.map bsL) := by
  have hl : s.data.toList.length = s.size := Array.length_toList
  generalize hL : s.data.toList = L at *
  rcases Nat.lt_or_ge from_ s.size with hlt | hge
  · rw [if_pos hlt]
    unfold linesV
    rw [if_neg (by omega), hL, if_neg]
    intro e
    obtain ⟨r, hr⟩ := List.getLast?_eq_some_iff.1 e
    rw [hr, splL_last] at h
    have h2 := congrArg (fun l => l.map List.length) (List.append_inj_right' h rfl)
    rw [← hr] at h2
    simp at h2
    omega
  · rw [if_neg (by omega)]
    have h3 : L.drop from_ = [] := List.drop_eq_nil_of_le (by omega)
    rw [h3] at h
    unfold linesV
    rcases Nat.eq_zero_or_pos s.size with h0 | h0
    · rw [if_pos h0]
      have : L = [] := List.eq_nil_of_length_eq_zero (by omega)
      rw [this] at h
      have e : out = [] := by
        cases out with
        | nil => rfl
        | cons y t => have := congrArg List.length h; simp [splL] at this
      rw [e]; rfl
    · rw [if_neg (by omega), hL]
      have hne : L ≠ [] := fun e => by rw [e] at hl; simp at hl; omega
      have hd : L = L.dropLast ++ [L.getLast hne] := (List.dropLast_concat_getLast hne).symm
      have hlast : L.getLast hne = 10 := by
        have hj := splL_join 10 L
        rw [h] at hj
        simp only [List.flatMap_append, List.flatMap_cons, List.flatMap_nil, List.nil_append, List.append_nil] at hj
        have hj2 := List.append_inj_left' hj rfl
        cases ho : out.reverse with
        | nil =>
          rw [List.reverse_eq_nil_iff] at ho
          rw [ho] at hj2
          exact absurd hj2.symm hne
        | cons y t =>
          have : out = t.reverse ++ [y] := by rw [← List.reverse_reverse out, ho, List.reverse_cons]
          rw [this] at hj2
          simp only [List.flatMap_append, List.flatMap_cons, List.flatMap_nil, List.append_nil] at hj2
          rw [← List.append_assoc] at hj2
          have := congrArg List.getLast? hj2
          rw [List.getLast?_concat, List.getLast?_eq_some_getLast hne] at this
          injection this with this
          exact this.symm
      rw [hlast] at hd
      have hg : L.getLast? = some 10 := by rw [hd, List.getLast?_concat]
      rw [if_pos hg]
      rw [hd, splL_last] at h
      rw [List.append_inj_left' h rfl]
end Go.Proofs.YtfhaoamlagnpjaaDoor

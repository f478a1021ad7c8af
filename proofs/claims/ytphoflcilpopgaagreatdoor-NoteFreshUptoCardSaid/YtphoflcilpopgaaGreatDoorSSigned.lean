/-
  CONTRACTS: note.signed and the document's sig: what a signature's line says.
-/
import Derived.Test.YtphoflcilpopgaaGreatDoorRows
import Derived.Laws.ResultCell
import Derived.Deep.QuietTactic
import Derived.BigQuiet
import Derived.Test.YtphoflcilpopgaaGreatDoorGBase
import Derived.Test.YtphoflcilpopgaaGreatDoorSShelf
import Derived.Test.YtphoflcilpopgaaGreatDoorGMacs
import Derived.Test.YtphoflcilpopgaaGreatDoorGDecs
import Derived.Test.YtphoflcilpopgaaGreatDoorSDigs
import Derived.Test.YtphoflcilpopgaaGreatDoorGSigs
import Derived.Test.YtphoflcilpopgaaGreatDoorSSignature
set_option linter.unusedVariables false
set_option linter.unusedSimpArgs false
namespace Go.Proofs.YtphoflcilpopgaaGreatDoor
open Go.RowKit Go.Lib
def noSig : SigR := ⟨⟨#[]⟩, ⟨#[]⟩, ⟨#[]⟩⟩
def dashB : ByteArray := ⟨#[226, 128, 148, 32]⟩
/-- What the two words of a signature's line say. -/
def sigOf2 (nm code : ByteArray) : Option SigR :=
  if nameOk nm = true then match unb64V code with
    | some b => if b.size = 36 then some ⟨nm, b.extract 0 4, b.extract 4 36⟩ else none
    | none => none
  else none
/-- What a signature's line says. -/
def sigP (line : ByteArray) : Option SigR :=
  if hasPrefix line.data.toList [226, 128, 148, 32] = true then
    (if (Lib.cut (line.data.toList.drop 4) [32]).2.2 = true then sigOf2 ⟨(Lib.cut (line.data.toList.drop 4) [32]).1.toArray⟩ ⟨(Lib.cut (line.data.toList.drop 4) [32]).2.1.toArray⟩ else none)
  else none
def sigA (line : ByteArray) : Value := match sigP line with
  | some x => .tuple #[sigV x, .bool true]
  | none => .tuple #[sigV noSig, .bool false]
theorem sigA_some {l : ByteArray} {x : SigR} (h : sigP l = some x) : sigA l = .tuple #[sigV x, .bool true] := by unfold sigA; rw [h]
theorem sigA_none {l : ByteArray} (h : sigP l = none) : sigA l = .tuple #[sigV noSig, .bool false] := by unfold sigA; rw [h]
theorem cut_sizes (l sep : List UInt8) : (Lib.cut l sep).1.length ≤ l.length ∧ (Lib.cut l sep).2.1.length ≤ l.length := by
  unfold Lib.cut
  split
  · simp only [List.length_take, List.length_drop]; omega
  · simp
/-- The variable internal/bytealg.MaxLen holds a number. -/
def MaxOk (w : World) : Prop := ∃ m : Int, w.cell? ⟨3, 0, none⟩ = some (.int .i64 m)
theorem MaxOk.below {w w' : World} {B : Nat} (h : MaxOk w) (hb : Below B w w') (hB : 3 < B) : MaxOk w' := by
  obtain ⟨m, hm⟩ := h
  exact ⟨m, (hb.cell (p := ⟨3, 0, none⟩) hB).trans hm⟩
theorem MaxOk.lt {w : World} (h : MaxOk w) : 3 < w.heap.size := by
  obtain ⟨m, hm⟩ := h
  exact World.block_lt_of_cell? w _ hm
theorem results_sig {fn : Func} {p u : Tmp} (h : fn.results = #[.cell p 43, .tmp u]) (tmps : Array Value) (w : World) (g : Nat) (a b c : Value) (hp : tmps.getD p undef = .pointer (some ⟨g, 0, none⟩)) (hB : Blk w g 43 #[a, b, c]) :
    (results fn tmps).run Tryz.prog w = .ok (.tuple #[.agg #[a, b, c], tmps.getD u undef]) w := by
  rw [results_cell_tmp h, hp]
  have hl := run_loadVar_row (P := Tryz.prog) w g 43 43 #[a, b, c] (0, 0) _ hB Tryz.underlying43 rfl (by kernel_rfl)
  simp [asAddr, hl, Result.andThen]
set_option maxRecDepth 100000 in
set_option maxHeartbeats 4000000 in
theorem signed_any (l : ByteArray) (w : World) (hs : l.size ≤ 1048576) (hM : MaxOk w) :
    Calls Tryz.prog 45 #[.string l] w fun e w' => e = .returned (sigA l) ∧ Below w.heap.size w w' := by
  have hll : l.data.toList.length = l.size := Array.length_toList
  obtain ⟨m, hm⟩ := hM.below ((Below.refl _ _).alloc (Nat.le_refl _) (.cells #[.string ⟨#[]⟩, .string ⟨#[]⟩, .string ⟨#[]⟩] 43)) hM.lt
  have hB0 : Blk (w.alloc (.cells #[.string ⟨#[]⟩, .string ⟨#[]⟩, .string ⟨#[]⟩] 43)) w.heap.size 43 #[.string ⟨#[]⟩, .string ⟨#[]⟩, .string ⟨#[]⟩] := Blk.new w _ _
  have hb0 : Below w.heap.size w (w.alloc (.cells #[.string ⟨#[]⟩, .string ⟨#[]⟩, .string ⟨#[]⟩] 43)) := (Below.refl _ _).alloc (Nat.le_refl _) _
  have hcp := Tryz.strings_CutPrefix l ⟨#[226, 128, 148, 32]⟩ (w.alloc (.cells #[.string ⟨#[]⟩, .string ⟨#[]⟩, .string ⟨#[]⟩] 43))
  generalize hw0 : (w.alloc (.cells #[.string ⟨#[]⟩, .string ⟨#[]⟩, .string ⟨#[]⟩] 43)) = w0 at hm hB0 hb0 hcp
  have HW0 := Lib.hid hw0; clear hw0
  have hT : (trimPrefix l.data.toList [226, 128, 148, 32]).length ≤ l.size := by
    unfold trimPrefix
    split
    · rw [List.length_drop]; omega
    · omega
  have hsp : Hid (sigP l = if hasPrefix l.data.toList [226, 128, 148, 32] = true then
    (if (Lib.cut (trimPrefix l.data.toList [226, 128, 148, 32]) [32]).2.2 = true then sigOf2 ⟨(Lib.cut (trimPrefix l.data.toList [226, 128, 148, 32]) [32]).1.toArray⟩ ⟨(Lib.cut (trimPrefix l.data.toList [226, 128, 148, 32]) [32]).2.1.toArray⟩ else none)
  else none) := by
    unfold sigP
    rw [Hid]
    split
    · rename_i h
      rw [show trimPrefix l.data.toList [226, 128, 148, 32] = l.data.toList.drop 4 from by unfold trimPrefix; rw [if_pos h]; rfl]
    · rfl
  have hcp' : Calls Tryz.prog 71 #[.string l, .string ⟨#[226, 128, 148, 32]⟩] w0 fun e w' => e = .returned (.tuple #[.string ⟨(trimPrefix l.data.toList [226, 128, 148, 32]).toArray⟩, .bool (hasPrefix l.data.toList [226, 128, 148, 32])]) ∧ w' = w0 := hcp
  clear hcp
  generalize trimPrefix l.data.toList [226, 128, 148, 32] = T at *
  generalize hasPrefix l.data.toList [226, 128, 148, 32] = pf at *
  have hcs := cut_sizes T [32]
  have hct := Tryz.strings_Cut ⟨T.toArray⟩ ⟨#[32]⟩ m w0 (by show T.toArray.size < _; rw [List.size_toArray]; omega) hm
  have hct' : Calls Tryz.prog 72 #[.string ⟨T.toArray⟩, .string ⟨#[32]⟩] w0 fun e w' => e = .returned (.tuple #[.string ⟨(Lib.cut T [32]).1.toArray⟩, .string ⟨(Lib.cut T [32]).2.1.toArray⟩, .bool (Lib.cut T [32]).2.2]) ∧ ∃ n, w' = w0.drewN n := hct
  clear hct hm
  have hnz : (⟨(Lib.cut T [32]).1.toArray⟩ : ByteArray).size ≤ l.size := by show (Lib.cut T [32]).1.toArray.size ≤ _; rw [List.size_toArray]; omega
  have hcz : (⟨(Lib.cut T [32]).2.1.toArray⟩ : ByteArray).size ≤ l.size := by show (Lib.cut T [32]).2.1.toArray.size ≤ _; rw [List.size_toArray]; omega
  generalize (⟨(Lib.cut T [32]).1.toArray⟩ : ByteArray) = nm at *
  generalize (⟨(Lib.cut T [32]).2.1.toArray⟩ : ByteArray) = code at *
  generalize (Lib.cut T [32]).2.2 = th at *
  have hna := fun W => name_any nm W (by simp only [maxLen]; omega)
  have hub := fun W => unb_any code W (by omega)
  have HC := hide (And.intro hcp' hct'); have HN := hide (And.intro hna hub); have H0 := hide (And.intro hB0 hb0)
  clear hcp' hct' hna hub hB0 hb0 hcs hT
  go_enter Tryz.func45, Tryz.ntmps45
  go_wp2_with fail
  rw [HW0.out]
  refine (unhide HC).1.mono ?_
  rintro e w1 ⟨rfl, rfl⟩
  go_wp2_with fail
  refine (unhide HC).2.mono ?_
  rintro e w2 ⟨rfl, nd, rfl⟩
  have hB2 : Blk (w1.drewN nd) w.heap.size 43 #[.string ⟨#[]⟩, .string ⟨#[]⟩, .string ⟨#[]⟩] := (unhide H0).1.drewN nd
  have hb2 := below_drewN (unhide H0).2 nd
  generalize w1.drewN nd = w2 at *
  have r0 := hB2.cell 0; have r1 := hB2.cell 1; have r2 := hB2.cell 2; have f0 := hB2.frozen 0; have f1 := hB2.frozen 1; have f2 := hB2.frozen 2
  simp only [List.getElem?_toArray, List.getElem?_cons_zero, List.getElem?_cons_succ] at r0 r1 r2
  have hB3 := blk3_store hB2 (.string ⟨#[]⟩) (.string ⟨#[]⟩) (.string ⟨#[]⟩)
  have hb3 := below3_store hb2 (Nat.le_refl w.heap.size) (.string ⟨#[]⟩) (.string ⟨#[]⟩) (.string ⟨#[]⟩)
  have H2 := hide (And.intro hB2 (And.intro hb2 (And.intro hB3 hb3))); clear hB2 hb2 hB3 hb3 H0 HC HW0
  cases pf with
  | false =>
    have hsp' : Hid (sigA l = .tuple #[sigV noSig, .bool false]) := sigA_none (by rw [hsp.out]; rfl)
    go_wp2_with fail
    (try simp only [Exit.inBlock, Exit.then])
    refine bodyPost_ret (results_sig rfl _ _ w.heap.size _ _ _ rfl (unhide H2).2.2.1) rfl ?_
    exact ⟨by rw [hsp'.out]; rfl, (unhide H2).2.2.2⟩
  | true =>
    cases th with
    | false =>
      have hsp' : Hid (sigA l = .tuple #[sigV noSig, .bool false]) := sigA_none (by rw [hsp.out]; rfl)
      go_wp2_with fail
      (try simp only [Exit.inBlock, Exit.then])
      refine bodyPost_ret (results_sig rfl _ _ w.heap.size _ _ _ rfl (unhide H2).2.2.1) rfl ?_
      exact ⟨by rw [hsp'.out]; rfl, (unhide H2).2.2.2⟩
    | true =>
      have hsp2 : Hid (sigP l = sigOf2 nm code) := by rw [Hid, hsp.out]; rfl
      clear hsp
      go_wp2_with fail
      refine ((unhide HN).1 w2).mono ?_
      rintro e w3 ⟨rfl, rfl⟩
      by_cases hno : nameOk nm = true
      · rw [hno]
        go_wp2_with fail
        have hub := (unhide HN).2 w2
        clear r0 r1 r2 f0 f1 f2
        cases hv : unb64V code with
        | none =>
          rw [unbA_none hv] at hub
          have hsp' : Hid (sigA l = .tuple #[sigV noSig, .bool false]) := sigA_none (by rw [hsp2.out]; unfold sigOf2; rw [if_pos hno, hv])
          have HU := hide hub; clear hub
          refine (unhide HU).mono ?_
          rintro e w3 ⟨rfl, hb3⟩
          have hB3 := (unhide H2).1.below hb3 (unhide H2).1.lt
          have hb3' := (unhide H2).2.1.trans (hb3.mono (unhide H2).2.1.size)
          have r0 := hB3.cell 0; have r1 := hB3.cell 1; have r2 := hB3.cell 2; have f0 := hB3.frozen 0; have f1 := hB3.frozen 1; have f2 := hB3.frozen 2
          simp only [List.getElem?_toArray, List.getElem?_cons_zero, List.getElem?_cons_succ] at r0 r1 r2
          have H3 := hide (And.intro (blk3_store hB3 (.string ⟨#[]⟩) (.string ⟨#[]⟩) (.string ⟨#[]⟩)) (below3_store hb3' (Nat.le_refl w.heap.size) (.string ⟨#[]⟩) (.string ⟨#[]⟩) (.string ⟨#[]⟩)))
          clear hB3 hb3 hb3'
          go_wp2_with fail
          (try simp only [Exit.inBlock, Exit.then])
          refine bodyPost_ret (results_sig rfl _ _ w.heap.size _ _ _ rfl (unhide H3).1) rfl ?_
          exact ⟨by rw [hsp'.out]; rfl, (unhide H3).2⟩
        | some b =>
          rw [unbA_some hv] at hub
          have HU := hide hub; clear hub
          refine (unhide HU).mono ?_
          rintro e w3 ⟨rfl, hb3⟩
          have hB3 := (unhide H2).1.below hb3 (unhide H2).1.lt
          have hb3' := (unhide H2).2.1.trans (hb3.mono (unhide H2).2.1.size)
          have r0 := hB3.cell 0; have r1 := hB3.cell 1; have r2 := hB3.cell 2; have f0 := hB3.frozen 0; have f1 := hB3.frozen 1; have f2 := hB3.frozen 2
          simp only [List.getElem?_toArray, List.getElem?_cons_zero, List.getElem?_cons_succ] at r0 r1 r2
          by_cases h36 : b.size = 36
          · have hsp' : Hid (sigA l = .tuple #[sigV ⟨nm, b.extract 0 4, b.extract 4 36⟩, .bool true]) := sigA_some (by rw [hsp2.out]; unfold sigOf2; rw [if_pos hno, hv]; show (if b.size = 36 then _ else _) = _; rw [if_pos h36])
            have H3 := hide (And.intro (blk3_store hB3 (.string nm) (.string (b.extract 0 4)) (.string (b.extract 4 36))) (below3_store hb3' (Nat.le_refl w.heap.size) (.string nm) (.string (b.extract 0 4)) (.string (b.extract 4 36))))
            clear hB3 hb3 hb3'
            have h36' : ((b.size : Int) == 36) = true := by rw [beq_iff_eq]; omega
            have i1 : (4 : Int) ≤ (b.size : Int) := by omega
            go_wp2_with fail
            go_region
            go_wp2_with fail
            (try simp only [Exit.inBlock, Exit.then])
            refine bodyPost_ret (results_sig rfl _ _ w.heap.size _ _ _ rfl (unhide H3).1.drew) rfl ?_
            exact ⟨by rw [hsp'.out]; rfl, (unhide H3).2.drew⟩
          · have hsp' : Hid (sigA l = .tuple #[sigV noSig, .bool false]) := sigA_none (by rw [hsp2.out]; unfold sigOf2; rw [if_pos hno, hv]; show (if b.size = 36 then _ else _) = _; rw [if_neg h36])
            have h36' : ((b.size : Int) == 36) = false := by rw [beq_eq_false_iff_ne]; omega
            have H3 := hide (And.intro (blk3_store hB3 (.string ⟨#[]⟩) (.string ⟨#[]⟩) (.string ⟨#[]⟩)) (below3_store hb3' (Nat.le_refl w.heap.size) (.string ⟨#[]⟩) (.string ⟨#[]⟩) (.string ⟨#[]⟩)))
            clear hB3 hb3 hb3'
            go_wp2_with fail
            (try simp only [Exit.inBlock, Exit.then])
            refine bodyPost_ret (results_sig rfl _ _ w.heap.size _ _ _ rfl (unhide H3).1) rfl ?_
            exact ⟨by rw [hsp'.out]; rfl, (unhide H3).2⟩
      · have hno' : nameOk nm = false := by simpa using hno
        have hsp' : Hid (sigA l = .tuple #[sigV noSig, .bool false]) := sigA_none (by rw [hsp2.out]; unfold sigOf2; rw [if_neg hno])
        rw [hno']
        go_wp2_with fail
        (try simp only [Exit.inBlock, Exit.then])
        refine bodyPost_ret (results_sig rfl _ _ w.heap.size _ _ _ rfl (unhide H2).2.2.1) rfl ?_
        exact ⟨by rw [hsp'.out]; rfl, (unhide H2).2.2.2⟩
end Go.Proofs.YtphoflcilpopgaaGreatDoor

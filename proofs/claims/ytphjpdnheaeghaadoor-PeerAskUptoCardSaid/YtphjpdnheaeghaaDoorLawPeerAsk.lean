/-
  THE ROW of 'annals/annalslaw22.PeerAsk': for every input whose bulk is at most 1048576 the call returns true, without a panic, and each argument reads behind the call as before (Rows.PeerAskUptoSaid). What narrows 'every input': the row's own cells; the listed package-level variables hold what the program's text lays (the card ties them). Written by a program of this work (tools/rowgen.py); the walk is the module before it.
-/

import Derived.Test.YtphjpdnheaeghaaDoorCards

import Derived.Test.YtphjpdnheaeghaaDoorTie

import Derived.Test.YtphjpdnheaeghaaDoorWPeerAsk

import Derived.WalkKit

import Derived.ProofKit

import Derived.OpenShut

import Derived.Deep.DeepHandedRow

import Derived.Lib.LaidTab

import Derived.RowKit

namespace Go.Proofs.YtphjpdnheaeghaaDoor.rowPeerAsk
open Go.ChangeShapes Go.WideShapes Go.ChangeAt Go.RowKit

theorem own : ownKnob Tryd.prog.godebug = none := by kernel_rfl
theorem lo : laidOutB Tryd.prog = true := by kernel_rfl

theorem rd9 : Tryd.prog.readableRec 9 = true := by kernel_rfl
theorem row9 : 9 < Tryd.prog.types.size := of_decide_eq_true (by kernel_rfl)

theorem rd24 : Tryd.prog.readableRec 24 = true := by kernel_rfl
theorem row24 : 24 < Tryd.prog.types.size := of_decide_eq_true (by kernel_rfl)

def setRow (cs : Array Value) : Obj → Obj
  | .cells _ t fr => .cells cs t fr
  | x => x

def cells_laid_unicode_utf8_acceptRanges : Array Value := #[.int .u8 128, .int .u8 191, .int .u8 160, .int .u8 191, .int .u8 128, .int .u8 159, .int .u8 144, .int .u8 191, .int .u8 128, .int .u8 143, .int .u8 0, .int .u8 0, .int .u8 0, .int .u8 0, .int .u8 0, .int .u8 0, .int .u8 0, .int .u8 0, .int .u8 0, .int .u8 0, .int .u8 0, .int .u8 0, .int .u8 0, .int .u8 0, .int .u8 0, .int .u8 0, .int .u8 0, .int .u8 0, .int .u8 0, .int .u8 0, .int .u8 0, .int .u8 0]

def cells_laid_unicode_utf8_first : Array Value := (Go.Pinned.utf8FirstZ.map fun (z : Nat) => Value.int .u8 (Int.ofNat z)).toArray

noncomputable def laidWorld (os : Os) : World := { World.holding Tryd.prog os ⟨#[], #[.agg #[.int .i64 0, .slice none 0 0, .string ⟨#[]⟩], .string ⟨#[]⟩], []⟩ with heap := (((World.holding Tryd.prog os ⟨#[], #[.agg #[.int .i64 0, .slice none 0 0, .string ⟨#[]⟩], .string ⟨#[]⟩], []⟩).heap.modify 2 (setRow cells_laid_unicode_utf8_acceptRanges)).modify 1 (setRow cells_laid_unicode_utf8_first)) }

theorem laid_met (os : Os) : laidMet Tryd.prog Rows.peerAskUptoRow.laid ((laidWorld os).forCall (fun _ _ => 0) ⟨#[], #[.agg #[.int .i64 0, .slice none 0 0, .string ⟨#[]⟩], .string ⟨#[]⟩], []⟩).memory :=
  laidMet_of_run' 8 (by kernel_rfl) (by kernel_rfl)

set_option maxRecDepth 100000 in
theorem contract (H : Type) (enc : TypeId × Value → H) (W : World) (base : Nat) (args : Array Value) (ds gs : List (DataW H)) (before : List MemPlace)
    (hval : ∀ (j : Nat) t v, Tryd.f3.params[j]? = some t → args[j]? = some v → Value.okWide Tryd.prog W .any base t v)
    (hW : DataW.Whole enc Tryd.prog Tryd.f3.params.toList Rows.peerAskSpec.vars false W args.toList ds gs before)
    (hz : (DataW.weightsEach Tryd.prog (Tryd.f3.params.toList ++ (Rows.OpenSpec.upto Rows.peerAskSpec).bare.plain.varTypes Tryd.prog) (ds ++ gs)).all (· ≤ reachBytes) = true) (hk : Rows.uptoSmall H (ds ++ gs) = true) (hL : laidMetH Tryd.prog Rows.peerAskUptoRow.laid W) (hsh : W.ShapedOpen Tryd.prog) :
    Calls Tryd.prog 3 args W fun e W' => ∃ v, e = .returned v ∧ Rows.peerAskSpec.post enc Tryd.prog Tryd.f3 false true false false W args v W' := by
  have hW' := hW
  obtain ⟨p, q, hA0, hV, rfl, hfz, hnd⟩ := hW
  have hA : DataW.TrodAll enc Tryd.prog W 0 (fun _ => true) true Tryd.f3.params.toList args.toList ds p := hA0
  rw [Tryd.params3] at hA hval
  obtain ⟨v0, vs0, d0, ds0, p0, q0, hargs, rfl, rfl, h0, r0⟩ := trodAll_cons hA
  obtain ⟨v1, vs1, d1, ds1, p1, q1, rfl, rfl, rfl, h1, r1⟩ := trodAll_cons r0
  obtain ⟨rfl, rfl, rfl⟩ := trodAll_nil r1
  obtain rfl : args = #[v0, v1] := by cases args; simp_all
  obtain ⟨rfl, rfl⟩ := trodVars_none hV
  clear hA0
  simp only [List.append_nil] at hW'
  have hlt : ∀ x ∈ (p0 ++ (p1) : List MemPlace), x.block < W.heap.size := fun x hx => hW'.lt x (by first | exact hx | simpa using hx)
  have l0 : ∀ x ∈ p0, x.block < W.heap.size := fun x hx => hlt x (by simp [hx])
  have l1 : ∀ x ∈ p1, x.block < W.heap.size := fun x hx => hlt x (by simp [hx])
  have hk' : Rows.uptoBulkAll ([d0, d1] : List (DataW H)) ≤ 1048576 := by have hk2 := of_decide_eq_true hk; simpa using hk2
  refine (peerAsk_walk (enc := enc) W base v0 d0 p0 v1 d1 p1 (hval 0 24 v0 rfl rfl) h0 l0 (hval 1 9 v1 rfl rfl) h1 l1 (by rw [Tryd.params3] at hz; exact hz) hk' hL hsh).mono fun e W' ⟨he, hb⟩ => ?_
  subst he
  refine ⟨_, rfl, post_of_below (pa := p0 ++ (p1)) (pv := []) hW' (fun _ _ _ => trodAll_cons_mk (shut_bool Tryd.underlying4 _) trodAll_mk0) (fun sp0 hsp => ?_) (fun _ _ => rfl) (by simp) hb (ok_one (by kernel_rfl) rfl (okWide_bool_mk Tryd.underlying4 _))⟩
  have hin0 : ∀ x ∈ p0, x ∈ (p0 ++ (p1) : List MemPlace) := fun x hx => by simp [hx]
  have hin1 : ∀ x ∈ p1, x ∈ (p0 ++ (p1) : List MemPlace) := fun x hx => by simp [hx]
  have sp : ∀ x ∈ (p0 ++ (p1) : List MemPlace), sp0 x.block = true := fun x hx => hsp x (by simpa using hx)
  have hfin := trodAll_cons_mk (WideElems.Trod_stays lo rd24 row24 h0 (fun x hx => hb.same (l0 x hx)) (fun x hx => sp x (hin0 x hx))) (trodAll_cons_mk (WideElems.Trod_stays lo rd9 row9 h1 (fun x hx => hb.same (l1 x hx)) (fun x hx => sp x (hin1 x hx))) (trodAll_mk0))
  simp only [List.append_nil] at hfin
  exact hfin

theorem reads (os : Os) {H : Type} (enc : TypeId × Value → H) : ∃ places, DataW.whole enc Tryd.prog ((laidWorld os).forCall (fun _ _ => 0) ⟨#[], #[.agg #[.int .i64 0, .slice none 0 0, .string ⟨#[]⟩], .string ⟨#[]⟩], []⟩).memory Tryd.f3.params.toList Rows.peerAskSpec.vars false (#[.agg #[.int .i64 0, .slice none 0 0, .string ⟨#[]⟩], .string ⟨#[]⟩] : Array Value).toList 8 = some ([.agg [.lit (.int .i64 0), .nil, .lit (.string [])], .lit (.string [])], [], places) :=
  ⟨[], by kernel_rfl⟩

set_option maxRecDepth 100000 in
theorem lifted (os : Os) (started : os.Started) (H : Type) (enc : TypeId × Value → H) (F : Stop.Interp) :
    ReturnsInHanded {} Tryd.checked os 3 .any ((Rows.OpenSpec.upto Rows.peerAskSpec).preRow enc Tryd.prog Tryd.f3 Rows.peerAskUptoRow.domain false Rows.peerAskUptoRow.laid) (((Rows.OpenSpec.upto Rows.peerAskSpec).at F).post enc Tryd.prog Tryd.f3 false true false false) := by
  obtain ⟨places, hx⟩ := reads os enc
  refine returnsInHanded_of_row (C := Tryd.checked) (s := Rows.OpenSpec.upto Rows.peerAskSpec) own started (by kernel_rfl) Tryd.func3
    (witness_row_at (enc := enc) (C := Tryd.checked) false (laidWorld os) #[.agg #[.int .i64 0, .slice none 0 0, .string ⟨#[]⟩], .string ⟨#[]⟩] rfl (by kernel_rfl) (by kernel_rfl) (by kernel_rfl)
      (OpenSpec.preRow_of_cond 8 hx (by kernel_rfl) (fun k hk => by cases hk; kernel_rfl) (by kernel_rfl) (laid_met os))) ?_
  intro W base args ds gs before hval hW _ hcond hz hL hsh _
  exact contract H enc W base args ds gs before hval hW hz (hcond _ rfl) hL hsh

theorem said : Rows.PeerAskUptoSaid :=
  OpenClaim.holds_of_cond 3 Tryd.f3 rfl rfl rfl rfl rfl rfl rfl ⟨rfl, rfl, rfl, rfl, rfl⟩ rfl rfl rfl rfl rfl (by kernel_rfl) Tryd.func3 (by kernel_rfl)
    (of_decide_eq_true (by kernel_rfl)) (by unfold Func.isWrapper; first | (rw [if_pos (by decide +kernel)]; kernel_rfl) | (rw [if_neg (by decide +kernel)]; exact ⟨rfl, rfl⟩))
    (fun os started H enc _ F => by rw [OpenClaim.pre_eq_preRow]; exact lifted os started H enc F)

theorem plain (f : FuncId) (fn : Func) (hf : Tryd.pinned.checked.prog.funcNamed "annals/annalslaw22.PeerAsk" = some f) (hfn : Tryd.pinned.checked.prog.funcs[f]? = some fn) :
    false = Tryd.pinned.checked.prog.looks [] ∧ ∀ (j : Nat) t, fn.params[j]? = some t → Tryd.pinned.checked.prog.wantsStandIn t = false := by
  obtain rfl : f = 3 := Option.some.inj ((show Tryd.prog.funcNamed "annals/annalslaw22.PeerAsk" = some 3 by kernel_rfl).symm.trans hf) |>.symm
  obtain rfl : fn = Tryd.f3 := (Option.some.inj (Tryd.func3.symm.trans hfn)).symm
  refine ⟨by kernel_rfl, fun j t ht => ?_⟩
  rw [Tryd.params3] at ht
  have hm := Array.mem_of_getElem? ht
  simp only [List.mem_toArray, List.mem_cons, List.not_mem_nil, or_false] at hm
  rcases hm with rfl | rfl
  · exact (show Tryd.prog.wantsStandIn 24 = false by kernel_rfl)
  · exact (show Tryd.prog.wantsStandIn 9 = false by kernel_rfl)

theorem card : Rows.PeerAskUptoCardSaid :=
  Claim7.holds_tied_plain_at .later [] _ _ _ _ said (fun _ h => by cases h) (by kernel_rfl) (fun _ h => by cases h) peerAskUpto_row_tie rfl ⟨rfl, rfl⟩ (by kernel_rfl) rfl plain (by kernel_rfl)

end Go.Proofs.YtphjpdnheaeghaaDoor.rowPeerAsk
namespace Go.Proofs.YtphjpdnheaeghaaDoor
theorem peerAsk_holds : Rows.PeerAskUptoCardSaid := rowPeerAsk.card
end Go.Proofs.YtphjpdnheaeghaaDoor
#print axioms Go.Proofs.YtphjpdnheaeghaaDoor.peerAsk_holds

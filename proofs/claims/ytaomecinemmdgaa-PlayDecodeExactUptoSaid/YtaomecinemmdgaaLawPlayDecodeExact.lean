/-
  THE ROW of 'annals/annalslaw30.PlayDecodeExact': for every input whose bulk is at most 1048576 the call returns true, without a panic, and each argument reads behind the call as before (Rows.PlayDecodeExactUptoSaid). What narrows 'every input': the row's own cells. Written by a program of this work (tools/rowgen.py); the walk is the module before it.
-/

import Derived.Test.YtaomecinemmdgaaWPlayDecodeExact

import Derived.WalkKit

import Derived.ProofKit

import Derived.OpenShut

import Derived.Deep.DeepHandedRow

import Derived.Lib.LaidTab

import Derived.RowKit

namespace Go.Proofs.Ytaomecinemmdgaa.rowPlayDecodeExact
open Go.ChangeShapes Go.WideShapes Go.ChangeAt Go.RowKit

theorem own : ownKnob Try.prog.godebug = none := by kernel_rfl
theorem lo : laidOutB Try.prog = true := by kernel_rfl

theorem rd9 : Try.prog.readableRec 9 = true := by kernel_rfl
theorem row9 : 9 < Try.prog.types.size := of_decide_eq_true (by kernel_rfl)

set_option maxRecDepth 100000 in
theorem contract (H : Type) (enc : TypeId × Value → H) (W : World) (base : Nat) (args : Array Value) (ds gs : List (DataW H)) (before : List MemPlace)
    (hval : ∀ (j : Nat) t v, Try.f5.params[j]? = some t → args[j]? = some v → Value.okWide Try.prog W .any base t v)
    (hW : DataW.Whole enc Try.prog Try.f5.params.toList Rows.playDecodeExactSpec.vars false W args.toList ds gs before)
    (hz : (DataW.weightsEach Try.prog (Try.f5.params.toList ++ (Rows.OpenSpec.upto Rows.playDecodeExactSpec).bare.plain.varTypes Try.prog) (ds ++ gs)).all (· ≤ reachBytes) = true) (hk : Rows.uptoSmall H (ds ++ gs) = true) (hsh : W.ShapedOpen Try.prog) :
    Calls Try.prog 5 args W fun e W' => ∃ v, e = .returned v ∧ Rows.playDecodeExactSpec.post enc Try.prog Try.f5 false true false false W args v W' := by
  have hW' := hW
  obtain ⟨p, q, hA0, hV, rfl, hfz, hnd⟩ := hW
  have hA : DataW.TrodAll enc Try.prog W 0 (fun _ => true) true Try.f5.params.toList args.toList ds p := hA0
  rw [Try.params5] at hA hval
  obtain ⟨v0, vs0, d0, ds0, p0, q0, hargs, rfl, rfl, h0, r0⟩ := trodAll_cons hA
  obtain ⟨rfl, rfl, rfl⟩ := trodAll_nil r0
  obtain rfl : args = #[v0] := by cases args; simp_all
  obtain ⟨rfl, rfl⟩ := trodVars_none hV
  clear hA0
  simp only [List.append_nil] at hW'
  have hlt : ∀ x ∈ (p0 : List MemPlace), x.block < W.heap.size := fun x hx => hW'.lt x (by first | exact hx | simpa using hx)
  have l0 : ∀ x ∈ p0, x.block < W.heap.size := fun x hx => hlt x (by simp [hx])
  have hk' : Rows.uptoBulkAll ([d0] : List (DataW H)) ≤ 1048576 := by have hk2 := of_decide_eq_true hk; simpa using hk2
  refine (playDecodeExact_walk (enc := enc) W base v0 d0 p0 (hval 0 9 v0 rfl rfl) h0 l0 (by rw [Try.params5] at hz; exact hz) hk' hsh).mono fun e W' ⟨he, hb⟩ => ?_
  subst he
  refine ⟨_, rfl, post_of_below (pa := p0) (pv := []) hW' (fun _ _ _ => trodAll_cons_mk (shut_bool Try.underlying4 _) trodAll_mk0) (fun sp0 hsp => ?_) (fun _ _ => rfl) (by simp) hb (ok_one (by kernel_rfl) rfl (okWide_bool_mk Try.underlying4 _))⟩
  have hin0 : ∀ x ∈ p0, x ∈ (p0 : List MemPlace) := fun x hx => by simp [hx]
  have sp : ∀ x ∈ (p0 : List MemPlace), sp0 x.block = true := fun x hx => hsp x (by simpa using hx)
  have hfin := trodAll_cons_mk (WideElems.Trod_stays lo rd9 row9 h0 (fun x hx => hb.same (l0 x hx)) (fun x hx => sp x (hin0 x hx))) (trodAll_mk0)
  simp only [List.append_nil] at hfin
  exact hfin

theorem reads (os : Os) {H : Type} (enc : TypeId × Value → H) : ∃ places, DataW.whole enc Try.prog ((World.holding Try.prog os ⟨#[], #[.string ⟨#[]⟩], []⟩).forCall (fun _ _ => 0) ⟨#[], #[.string ⟨#[]⟩], []⟩).memory Try.f5.params.toList Rows.playDecodeExactSpec.vars false (#[.string ⟨#[]⟩] : Array Value).toList 8 = some ([.lit (.string [])], [], places) :=
  ⟨[], by kernel_rfl⟩

set_option maxRecDepth 100000 in
theorem lifted (os : Os) (started : os.Started) (H : Type) (enc : TypeId × Value → H) (F : Stop.Interp) :
    ReturnsInHanded {} Try.checked os 5 .any ((Rows.OpenSpec.upto Rows.playDecodeExactSpec).preRow enc Try.prog Try.f5 Rows.playDecodeExactUptoRow.domain false Rows.playDecodeExactUptoRow.laid) (((Rows.OpenSpec.upto Rows.playDecodeExactSpec).at F).post enc Try.prog Try.f5 false true false false) := by
  obtain ⟨places, hx⟩ := reads os enc
  refine returnsInHanded_of_row (C := Try.checked) (s := Rows.OpenSpec.upto Rows.playDecodeExactSpec) own started (by kernel_rfl) Try.func5
    (witness_row_at (enc := enc) (C := Try.checked) false (World.holding Try.prog os ⟨#[], #[.string ⟨#[]⟩], []⟩) #[.string ⟨#[]⟩] rfl (by kernel_rfl) (by kernel_rfl) (by kernel_rfl)
      (OpenSpec.preRow_of_cond 8 hx (by kernel_rfl) (fun k hk => by cases hk; kernel_rfl) (by kernel_rfl) (laidMetH_nil _ _))) ?_
  intro W base args ds gs before hval hW _ hcond hz hL hsh _
  exact contract H enc W base args ds gs before hval hW hz (hcond _ rfl) hsh

theorem said : Rows.PlayDecodeExactUptoSaid :=
  OpenClaim.holds_of_cond 5 Try.f5 rfl rfl rfl rfl rfl rfl rfl ⟨rfl, rfl, rfl, rfl, rfl⟩ rfl rfl rfl rfl rfl (by kernel_rfl) Try.func5 (by kernel_rfl)
    (of_decide_eq_true (by kernel_rfl)) (by unfold Func.isWrapper; first | (rw [if_pos (by decide +kernel)]; kernel_rfl) | (rw [if_neg (by decide +kernel)]; exact ⟨rfl, rfl⟩))
    (fun os started H enc _ F => by rw [OpenClaim.pre_eq_preRow]; exact lifted os started H enc F)

end Go.Proofs.Ytaomecinemmdgaa.rowPlayDecodeExact
namespace Go.Proofs.Ytaomecinemmdgaa
theorem playDecodeExact_holds : Rows.PlayDecodeExactUptoSaid := rowPlayDecodeExact.said
end Go.Proofs.Ytaomecinemmdgaa
#print axioms Go.Proofs.Ytaomecinemmdgaa.playDecodeExact_holds

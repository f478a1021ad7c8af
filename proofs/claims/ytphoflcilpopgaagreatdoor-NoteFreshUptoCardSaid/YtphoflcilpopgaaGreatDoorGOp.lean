/-
  Several texts in one: WORDS on an opened note: what Open answers, and the cells in which it is gathered. | CONTRACT of note.Open. | CONTRACTS of the law's helpers: same, opened; an answer of Open in parts.
-/
import Derived.Test.YtphoflcilpopgaaGreatDoorRows
import Derived.Laws.ResultCell
import Derived.Deep.RegionHeld3
import Derived.Outline
import Derived.Deep.DeepMust
import Derived.Deep.QuietTactic
import Derived.BigQuiet
import Derived.Test.YtphoflcilpopgaaGreatDoorGBase
import Derived.Test.YtphoflcilpopgaaGreatDoorGSigs
import Derived.Test.YtphoflcilpopgaaGreatDoorSSignature
import Derived.Test.YtphoflcilpopgaaGreatDoorGRd
import Derived.Test.YtphoflcilpopgaaGreatDoorSOwner
import Derived.Test.YtphoflcilpopgaaGreatDoorSSame
set_option linter.unusedVariables false
set_option linter.unusedSimpArgs false
namespace Go.Proofs.YtphoflcilpopgaaGreatDoor
open Go.RowKit Go.Lib
/-- The code of a text under a secret. -/
def macB (sc t : ByteArray) : ByteArray := ⟨(macL sc.data.toList t.data.toList).toArray⟩
/-- The signatures one after the other: good ones, others; or the refusal. -/
def openG (t : ByteArray) (ks : List KeyR) : List SigR → List SigR → List SigR → Option (List SigR × List SigR)
  | [], g, r => some (g, r)
  | x :: xs, g, r => match ownerF ks x with
    | none => openG t ks xs g (r ++ [x])
    | some k => if x.mc = macB k.sc t then openG t ks xs (g ++ [x]) r else none
/-- What Open says: the text, the good signatures, the others; or the number of the refusal. -/
def openV (note : ByteArray) (ks : List KeyR) : Except Nat (ByteArray × List SigR × List SigR) :=
  if 65536 < note.size then .error 121 else match readV note with
    | none => .error 200
    | some (t, S) => match openG t ks S [] [] with
      | none => .error 201
      | some (g, r) => if g.length = 0 then .error 202 else .ok (t, g, r)
/-- What Open answers in memory. -/
def OpenR (N : Nat) (note : ByteArray) (ks : List KeyR) (e : Ending) (w' : World) : Prop :=
  match openV note ks with
  | .error n => e = .returned (.tuple #[.agg #[.string ⟨#[]⟩, .slice none 0 0, .slice none 0 0], .int .i64 n])
  | .ok (t, g, r) => ∃ vg vr, e = .returned (.tuple #[.agg #[.string t, vg, vr], .int .i64 0]) ∧ OwnG w' N vg g ∧ OwnG w' N vr r ∧ (∀ k, vg.ownBlock = some k → vr.ownBlock ≠ some k)
theorem OpenR.err {N : Nat} {note : ByteArray} {ks : List KeyR} {w' : World} (n : Nat) (h : openV note ks = .error n) : OpenR N note ks (.returned (.tuple #[.agg #[.string ⟨#[]⟩, .slice none 0 0, .slice none 0 0], .int .i64 n])) w' := by
  unfold OpenR; rw [h]
theorem OpenR.ok {N : Nat} {note : ByteArray} {ks : List KeyR} {w' : World} {t : ByteArray} {g r : List SigR} {vg vr : Value} (h : openV note ks = .ok (t, g, r)) (h1 : OwnG w' N vg g) (h2 : OwnG w' N vr r) (h3 : ∀ k, vg.ownBlock = some k → vr.ownBlock ≠ some k) :
    OpenR N note ks (.returned (.tuple #[.agg #[.string t, vg, vr], .int .i64 0])) w' := by
  unfold OpenR; rw [h]; exact ⟨vg, vr, rfl, h1, h2, h3⟩
/-- The blocks of a call of Open: the result (block N), the opened note under way (block M), the signatures read (S) and gathered. -/
structure OpB (w W : World) (N M : Nat) (rs : List Value) (t : ByteArray) (vg vr vs : Value) (g r S : List SigR) : Prop where
  b0 : Blk W N 25 rs.toArray
  b1 : Blk W M 25 #[.string t, vg, vr]
  og : OwnG W (N + 1) vg g
  or : OwnG W (N + 1) vr r
  os : OwnG W (N + 1) vs S
  gr : ∀ k, vg.ownBlock = some k → vr.ownBlock ≠ some k
  gs : ∀ k, vg.ownBlock = some k → vs.ownBlock ≠ some k
  rS : ∀ k, vr.ownBlock = some k → vs.ownBlock ≠ some k
  below : Below N w W
  lt : N < M
theorem own_ne {W : World} {base M : Nat} {v : Value} {xs : List SigR} {cs : Array Value} (h : OwnG W base v xs) (hB : Blk W M 25 cs) : v.ownBlock ≠ some M := own_blk_ne h hB (by decide)
theorem OwnG.far2 {w : World} {base : Nat} {v : Value} {acc : List SigR} (h : OwnG w base v acc) {p : Addr} (hp : v.ownBlock ≠ some p.block) (u : Value) : OwnG (w.setCell p u) base v acc :=
  World.ownsRow.kept h (row := some p.block) ⟨rfl, rfl, rfl, by simp [World.setCell], fun i _ hne => Below.heap_setCell w p u i (fun e => hne (by rw [e]))⟩ (.inr hp)
theorem OpB.next {w W W' : World} {N M : Nat} {rs : List Value} {t : ByteArray} {vg vr vs : Value} {g r S : List SigR} (h : OpB w W N M rs t vg vr vs g r S) (hb : Below W.heap.size W W') : OpB w W' N M rs t vg vr vs g r S :=
  ⟨h.b0.below hb h.b0.lt, h.b1.below hb h.b1.lt, h.og.below hb, h.or.below hb, h.os.below hb, h.gr, h.gs, h.rS, h.below.trans (hb.mono (Nat.le_of_lt h.b0.lt)), h.lt⟩
theorem OpB.drew {w W : World} {N M : Nat} {rs : List Value} {t : ByteArray} {vg vr vs : Value} {g r S : List SigR} (h : OpB w W N M rs t vg vr vs g r S) : OpB w W.drew N M rs t vg vr vs g r S :=
  ⟨h.b0.drew, h.b1.drew, h.og.drew, h.or.drew, h.os.drew, h.gr, h.gs, h.rS, h.below.drew, h.lt⟩
theorem OpB.drewN {w W : World} {N M : Nat} {rs : List Value} {t : ByteArray} {vg vr vs : Value} {g r S : List SigR} (h : OpB w W N M rs t vg vr vs g r S) (n : Nat) : OpB w (W.drewN n) N M rs t vg vr vs g r S :=
  ⟨h.b0.drewN n, h.b1.drewN n, h.og.drewN n, h.or.drewN n, h.os.drewN n, h.gr, h.gs, h.rS, below_drewN h.below n, h.lt⟩
theorem kept_append {W W' : World} {o : Obj} {base : Nat} {u v : Value} {xs : List SigR} (h : OwnG W base u xs) (hg : (W.alloc o).grownBy W' v.ownBlock) (hne : ∀ k, v.ownBlock = some k → u.ownBlock ≠ some k) : OwnG W' base u xs := by
  refine World.ownsRow.kept (h.alloc o) hg ?_
  cases hv : v.ownBlock with
  | none => cases hu : u.ownBlock <;> simp
  | some k => exact .inr (hne k hv)
theorem new_ne {W : World} {o : Obj} {base : Nat} {u v v' : Value} {xs : List SigR} (h : OwnG W base u xs) (hat : v'.ownBlock = v.ownBlock ∨ v'.ownBlock = some (W.heap.size + 1)) (hne : ∀ k, v.ownBlock = some k → u.ownBlock ≠ some k) : ∀ k, v'.ownBlock = some k → u.ownBlock ≠ some k := by
  intro k hk
  rcases hat with e | e
  · exact hne k (e ▸ hk)
  · rw [e] at hk
    injection hk with hk
    intro e2
    have := (h.lt k e2).2
    omega
theorem sym_ne {u v : Value} (h : ∀ k, u.ownBlock = some k → v.ownBlock ≠ some k) : ∀ k, v.ownBlock = some k → u.ownBlock ≠ some k := fun k h1 h2 => h k h2 h1
theorem blk_kept {W W' : World} {o : Obj} {M : Nat} {cs : Array Value} {v : Value} {base : Nat} {xs : List SigR} (h : Blk W M 25 cs) (hg : (W.alloc o).grownBy W' v.ownBlock) (hv : OwnG W base v xs) : Blk W' M 25 cs :=
  (h.alloc o).grown hg (own_ne hv h).symm
/-- o.Good = append(o.Good, x). -/
theorem OpB.good {w W W' : World} {N M : Nat} {rs : List Value} {t : ByteArray} {vg vr vs vg' : Value} {g r S g' : List SigR} (h : OpB w W N M rs t vg vr vs g r S) {o : Obj} (hg : (W.alloc o).grownBy W' vg.ownBlock) (h' : OwnG W' (N + 1) vg' g') (hat : vg'.ownBlock = vg.ownBlock ∨ vg'.ownBlock = some (W.heap.size + 1)) :
    Blk W' M 25 #[.string t, vg, vr] ∧ OpB w (W'.setCell ⟨M, 1, none⟩ vg') N M rs t vg' vr vs g' r S := by
  have h1 := blk_kept h.b1 hg h.og
  have h0 := blk_kept h.b0 hg h.og
  have hr := kept_append h.or hg h.gr
  have hs := kept_append h.os hg h.gs
  have hb : Below N w W' := (h.below.alloc (Nat.le_of_lt h.b0.lt) o).grown hg (by have := h.b0.lt; simp; omega) (fun q e => by have := (h.og.lt q e).1; omega)
  have hM := h.lt
  exact ⟨h1, ⟨h0.far (by simp; omega) _, h1.set_ 1 _, h'.far2 (own_ne h' h1) _, hr.far2 (own_ne hr h1) _, hs.far2 (own_ne hs h1) _, new_ne (o := o) h.or hat h.gr, new_ne (o := o) h.os hat h.gs, h.rS, hb.setCell (by simp; omega) _, hM⟩⟩
/-- o.Rest = append(o.Rest, x). -/
theorem OpB.rest {w W W' : World} {N M : Nat} {rs : List Value} {t : ByteArray} {vg vr vs vr' : Value} {g r S r' : List SigR} (h : OpB w W N M rs t vg vr vs g r S) {o : Obj} (hg : (W.alloc o).grownBy W' vr.ownBlock) (h' : OwnG W' (N + 1) vr' r') (hat : vr'.ownBlock = vr.ownBlock ∨ vr'.ownBlock = some (W.heap.size + 1)) :
    Blk W' M 25 #[.string t, vg, vr] ∧ OpB w (W'.setCell ⟨M, 2, none⟩ vr') N M rs t vg vr' vs g r' S := by
  have h1 := blk_kept h.b1 hg h.or
  have h0 := blk_kept h.b0 hg h.or
  have hgd := kept_append h.og hg (sym_ne h.gr)
  have hs := kept_append h.os hg h.rS
  have hb : Below N w W' := (h.below.alloc (Nat.le_of_lt h.b0.lt) o).grown hg (by have := h.b0.lt; simp; omega) (fun q e => by have := (h.or.lt q e).1; omega)
  have hM := h.lt
  exact ⟨h1, ⟨h0.far (by simp; omega) _, h1.set_ 2 _, hgd.far2 (own_ne hgd h1) _, h'.far2 (own_ne h' h1) _, hs.far2 (own_ne hs h1) _, sym_ne (new_ne (o := o) h.og hat (sym_ne h.gr)), h.gs, new_ne (o := o) h.os hat h.rS, hb.setCell (by simp; omega) _, hM⟩⟩
theorem results_opened {fn : Func} {p u : Tmp} (h : fn.results = #[.cell p 25, .tmp u]) (tmps : Array Value) (w : World) (g : Nat) (a b c : Value) (hp : tmps.getD p undef = .pointer (some ⟨g, 0, none⟩)) (hB : Blk w g 25 #[a, b, c]) :
    (results fn tmps).run Tryz.prog w = .ok (.tuple #[.agg #[a, b, c], tmps.getD u undef]) w := by
  rw [results_cell_tmp h, hp]
  have hl := run_loadVar_row (P := Tryz.prog) w g 25 25 #[a, b, c] (0, 0) _ hB Tryz.underlying25 rfl (by kernel_rfl)
  simp [asAddr, hl, Result.andThen]
/-- append(v, x), x one signature in a new block of its own, whose number is known. -/
theorem wpList_appG1_at {ops : Array Oper} {rest : List Oper} {o : Oper} {a : Act} {Q : Exit → Act → World → Prop} (w : World) (gx : Nat) (hw : w.heap.size = gx) (hgd : o.guard = none) (s x : Operand)
    (ho : o.op = .call { callee := .builtin .append, args := #[s, x], argTypes := #[23, 23] })
    {base : Nat} {v : Value} {xs : List SigR} (hown : OwnG w base v xs) (hs : a.eval s = v) {y : SigR} (hx : a.eval x = .slice (some ⟨gx, 0, none⟩) 1 1)
    (h47 : xs.length + 1 ≤ 1099511627776) (hbase : base ≤ gx)
    (h : ∀ v' w', OwnG w' base v' (xs ++ [y]) → (w.alloc (.cells #[.string y.nm, .string y.id, .string y.mc] 43)).grownBy w' v.ownBlock → (v'.ownBlock = v.ownBlock ∨ v'.ownBlock = some (w.heap.size + 1)) → wpList Tryz.prog ops Q rest (a.put o.dst v') w') :
    wpList Tryz.prog ops Q (o :: rest) a (w.alloc (.cells #[.string y.nm, .string y.id, .string y.mc] 43)) := by
  subst hw
  exact wpList_appG1 w hgd s x ho hown hs hx h47 hbase h
theorem step_appG1 {ops : Array Oper} {o : Oper} {a : Act} {K : Act → World → Prop} {Q : Exit → Act → World → Prop} {E : Prop} (w : World) (gx : Nat) (hw : w.heap.size = gx) (hgd : o.guard = none) (s x : Operand)
    (ho : o.op = .call { callee := .builtin .append, args := #[s, x], argTypes := #[23, 23] })
    {base : Nat} {v : Value} {xs : List SigR} (hown : OwnG w base v xs) (hs : a.eval s = v) {y : SigR} (hx : a.eval x = .slice (some ⟨gx, 0, none⟩) 1 1)
    (h47 : xs.length + 1 ≤ 1099511627776) (hbase : base ≤ gx)
    (h : ∀ v' w', OwnG w' base v' (xs ++ [y]) → (w.alloc (.cells #[.string y.nm, .string y.id, .string y.mc] 43)).grownBy w' v.ownBlock → (v'.ownBlock = v.ownBlock ∨ v'.ownBlock = some (w.heap.size + 1)) → K (a.put o.dst v') w') :
    if Region.wanted o (yielded ops a.tmps) = true then Oper.wp Tryz.prog o a (w.alloc (.cells #[.string y.nm, .string y.id, .string y.mc] 43)) K Q else E := by
  subst hw
  obtain ⟨i, hi, hz, hs1, hb1⟩ := info_parts sigInfo
  have hrd : Reads (w.alloc (.cells #[.string y.nm, .string y.id, .string y.mc] 43)) (w.heap.size + 1) 3 (some ⟨w.heap.size, 0, none⟩) 1 y.cs := by
    refine ⟨rfl, fun _ => ⟨_, rfl, Nat.lt_succ_self _, fun j u hu => ?_⟩⟩
    have hadd : (⟨w.heap.size, 0, none⟩ : Addr).add j = ⟨w.heap.size, j, none⟩ := by unfold Addr.add; split <;> simp_all
    rw [hadd, (Blk.new w 43 _).cell j, ← hu]
    simp [SigR.cs]
  refine step_append_any (w := w.alloc _) hgd s x 23 ho base 43 i _ 3 48 Tryz.underlying23 hi hz hs1 hb1 rfl (by decide) v xs.length (sigCells xs) hs (hown.alloc _) (w.heap.size + 1) _ 1 1 y.cs hx hrd ?_ ?_ ?_ (by simp; omega) ?_
  · intro u hu
    simp [SigR.cs] at hu
    rcases hu with rfl | rfl | rfl <;> rfl
  · simp only [maxLen]; omega
  · omega
  · intro v' w' h1 h2 h3
    refine h v' w' ?_ h2 (by simpa using h3)
    unfold OwnG
    rw [List.length_append]
    have e : sigCells (xs ++ [y]) = sigCells xs ++ y.cs := by unfold sigCells; rw [List.flatMap_append]; simp
    rw [e]
    exact h1
theorem sigP_ok {l : ByteArray} {x : SigR} (h : sigP l = some x) : SigOk x := by
  unfold sigP at h
  split at h
  · split at h
    · unfold sigOf2 at h
      split at h
      · rename_i hn
        split at h
        · rename_i b hb
          split at h
          · rename_i h36
            injection h with h
            subst h
            exact ⟨nameOk_size hn, by rw [ByteArray.size_extract]; omega, by rw [ByteArray.size_extract]; omega⟩
          · cases h
        · cases h
      · cases h
    · cases h
  · cases h
theorem rdGo_ok (note : ByteArray) : ∀ (ls : List (Nat × ByteArray)) (acc : List SigR) (t : ByteArray) (S : List SigR), (∀ x ∈ acc, SigOk x) → acc.length ≤ 16 → rdGo note ls acc = some (t, S) →
    (∀ x ∈ S, SigOk x) ∧ 1 ≤ S.length ∧ S.length ≤ 16 ∧ goesV t = true ∧ t.size ≤ note.size
  | [], acc, t, S, _, _, h => by simp [rdGo] at h
  | (a, l) :: r, acc, t, S, h1, h2, h => by
    rw [rdGo] at h
    split at h
    · split at h
      · rename_i hc
        simp only [Option.some.injEq, Prod.mk.injEq] at h
        obtain ⟨rfl, rfl⟩ := h
        refine ⟨fun x hx => h1 x (List.mem_reverse.1 hx), by rw [List.length_reverse]; omega, by rw [List.length_reverse]; omega, hc.1, by rw [ByteArray.size_extract]; omega⟩
      · cases h
    · split at h
      · cases h
      · rename_i x hx
        split at h
        · cases h
        · rename_i hc
          refine rdGo_ok note r (acc ++ [x]) t S (fun y hy => ?_) (by simp; omega) h
          rcases List.mem_append.1 hy with hy | hy
          · exact h1 y hy
          · simp at hy; subst hy; exact sigP_ok hx
theorem readV_ok {note t : ByteArray} {S : List SigR} (h : readV note = some (t, S)) : (∀ x ∈ S, SigOk x) ∧ 1 ≤ S.length ∧ S.length ≤ 16 ∧ goesV t = true ∧ t.size ≤ note.size := by
  unfold readV at h
  split at h
  · exact rdGo_ok note _ [] t S (by simp) (by simp) h
  · cases h
theorem macB_size (sc t : ByteArray) : (macB sc t).size = 32 := by
  show (macL sc.data.toList t.data.toList).toArray.size = 32
  rw [List.size_toArray]; exact macL_length _ _
theorem openG_step {t : ByteArray} {ks : List KeyR} {S g r : List SigR} {k : Nat} (hk : k < S.length) : openG t ks (S.drop k) g r = match ownerF ks S[k] with
    | none => openG t ks (S.drop (k + 1)) g (r ++ [S[k]])
    | some y => if S[k].mc = macB y.sc t then openG t ks (S.drop (k + 1)) (g ++ [S[k]]) r else none := by
  rw [List.drop_eq_getElem_cons hk, openG]
theorem openV_read {note t : ByteArray} {ks : List KeyR} {S : List SigR} (h6 : note.size ≤ 65536) (h : readV note = some (t, S)) : openV note ks = match openG t ks S [] [] with
      | none => .error 201
      | some (g, r) => if g.length = 0 then .error 202 else .ok (t, g, r) := by
  unfold openV; rw [if_neg (by omega), h]
end Go.Proofs.YtphoflcilpopgaaGreatDoor

set_option linter.unusedVariables false
set_option linter.unusedSimpArgs false
namespace Go.Proofs.YtphoflcilpopgaaGreatDoor
open Go.RowKit Go.Lib
set_option maxRecDepth 100000 in
set_option maxHeartbeats 4000000 in
theorem open_any (note : ByteArray) (v : Value) (ks : List KeyR) (w : World) (hs : note.size ≤ 1099511627776) (hks : ∀ k ∈ ks, k.nm.size ≤ 1099511627776 ∧ k.sc.size ≤ 1099511627776) (hn : ks.length ≤ 1099511627776) (hV : KeysAt w v ks) (hT : PTab w) (hU : Lib.Utf8Tabs 5 6 w) (hM : MaxOk w) :
    Calls Tryz.prog 6 #[.string note, v] w fun e w' => OpenR w.heap.size note ks e w' ∧ Below w.heap.size w w' := by
  obtain ⟨A, c, rfl, -⟩ := id hV
  have hb0 : Below w.heap.size w (w.alloc (.cells #[.string ⟨#[]⟩, .slice none 0 0, .slice none 0 0] 25)) := (Below.refl _ _).alloc (Nat.le_refl _) _
  have hN0 : Blk (w.alloc (.cells #[.string ⟨#[]⟩, .slice none 0 0, .slice none 0 0] 25)) w.heap.size 25 #[.string ⟨#[]⟩, .slice none 0 0, .slice none 0 0] := Blk.new _ _ _
  have hrd := read_any note (w.alloc (.cells #[.string ⟨#[]⟩, .slice none 0 0, .slice none 0 0] 25)) hs (hM.below hb0 hM.lt) (Tabs.below hU hb0 (Tabs.lt3 hU) (Tabs.lt4 hU))
  have HKS := hide hks; have HV := hide hV; have HT := hide hT; have HRD := hide hrd; have H0 := hide (And.intro hb0 hN0); clear hks hV hT hU hM hrd hb0 hN0
  go_enter Tryz.func6, Tryz.ntmps6
  go_wp2_with fail
  refine (unhide HRD).mono ?_
  rintro e w1 ⟨hR, hb1⟩
  have hN1 := (unhide H0).2.below hb1 (unhide H0).2.lt
  have hb1' := (unhide H0).1.trans (hb1.mono (unhide H0).1.size)
  rw [World.size_alloc] at hR
  have H1 := hide (And.intro hN1 hb1')
  clear hb1 hb1' HRD H0
  rcases hR with ⟨h6, rfl⟩ | ⟨h6, hrv, rfl⟩ | ⟨h6, t, S, vs, hrv, rfl, hO⟩
  · have hres : Hid (openV note ks = .error 121) := by unfold openV; rw [Hid, if_pos h6]
    have c0 := hN1.cell 0; have c1 := hN1.cell 1; have c2 := hN1.cell 2; have f0 := hN1.frozen 0; have f1 := hN1.frozen 1; have f2 := hN1.frozen 2
    simp only [List.getElem?_toArray, List.getElem?_cons_zero, List.getElem?_cons_succ] at c0 c1 c2
    clear hN1 h6
    go_wp2_with fail
    (try simp only [Exit.inBlock, Exit.then])
    refine bodyPost_ret (results_opened rfl _ _ w.heap.size _ _ _ rfl (blk3_store (unhide H1).1 (.string ⟨#[]⟩) (.slice none 0 0) (.slice none 0 0))) rfl ?_
    exact ⟨OpenR.err 121 hres.out, below3_store (unhide H1).2 (Nat.le_refl _) _ _ _⟩
  · have hres : Hid (openV note ks = .error 200) := by unfold openV; rw [Hid, if_neg (by omega), hrv]
    have c0 := hN1.cell 0; have c1 := hN1.cell 1; have c2 := hN1.cell 2; have f0 := hN1.frozen 0; have f1 := hN1.frozen 1; have f2 := hN1.frozen 2
    simp only [List.getElem?_toArray, List.getElem?_cons_zero, List.getElem?_cons_succ] at c0 c1 c2
    clear hN1 hrv
    go_wp2_with fail
    (try simp only [Exit.inBlock, Exit.then])
    refine bodyPost_ret (results_opened rfl _ _ w.heap.size _ _ _ rfl (blk3_store (unhide H1).1 (.string ⟨#[]⟩) (.slice none 0 0) (.slice none 0 0))) rfl ?_
    exact ⟨OpenR.err 200 hres.out, below3_store (unhide H1).2 (Nat.le_refl _) _ _ _⟩
  · obtain ⟨hsok, hS1, hS16, hgt, htz⟩ := readV_ok hrv
    have hov := Lib.hid (openV_read (ks := ks) h6 hrv)
    obtain ⟨As, cs, rfl⟩ := hO.slice
    have hlt1 := hN1.lt
    have HS := hide hsok; have HO := hide hO
    clear hN1 hrv hsok hgt hO
    go_wp2_with fail
    have hB0 : OpB w (w1.alloc (.cells #[.string t, .slice none 0 0, .slice none 0 0] 25)) w.heap.size w1.heap.size [.string ⟨#[]⟩, .slice none 0 0, .slice none 0 0] t (.slice none 0 0) (.slice none 0 0) (.slice As S.length cs) [] [] S :=
      ⟨(unhide H1).1.alloc _, Blk.new _ _ _, OwnG.nil _ _, OwnG.nil _ _, (unhide HO).alloc _, fun k h => by simp [Value.ownBlock] at h, fun k h => by simp [Value.ownBlock] at h, fun k h => by simp [Value.ownBlock] at h, (unhide H1).2.alloc (unhide H1).2.size _, hlt1⟩
    generalize w1.heap.size = M at *
    generalize (w1.alloc (.cells #[.string t, .slice none 0 0, .slice none 0 0] 25)) = w2 at *
    have HB0 := hide hB0; clear hB0 H1 HO
    go_loopw [28] (fun i wr => ∃ (k : Nat) (g r : List SigR) (vg vr : Value), k ≤ S.length ∧ i = .int .i64 k ∧ Hid (openG t ks (S.drop k) g r = openG t ks S [] []) ∧ g.length ≤ k ∧ r.length ≤ k ∧ OpB w wr w.heap.size M [.string ⟨#[]⟩, .slice none 0 0, .slice none 0 0] t vg vr (.slice As S.length cs) g r S) (fun i _ => S.length - (RowKit.intOf i).toNat)
    case atStart => exact ⟨0, [], [], _, _, by omega, rfl, Lib.hid rfl, by simp, by simp, unhide HB0⟩
    case round =>
      clear HB0
      obtain ⟨k, g, r, vg, vr, hk, rfl, hI, hgl, hrl, hB⟩ := hrel
      obtain ⟨Ag, cg, rfl⟩ := hB.og.slice
      obtain ⟨Ar, cr, rfl⟩ := hB.or.slice
      rcases Nat.lt_or_ge k S.length with hlt | hge
      · obtain ⟨gS, rfl⟩ : ∃ gS, As = some ⟨gS, 0, none⟩ := by
          rcases hB.os.form with ⟨h1, h2⟩ | ⟨gg, cap, h1, -⟩
          · rw [h2] at hlt; simp at hlt
          · injection h1 with e1 _ _
            exact ⟨gg, e1⟩
        have c0 := hB.os.cell k 0 hlt (by omega); have c1 := hB.os.cell k 1 hlt (by omega); have c2 := hB.os.cell k 2 hlt (by omega)
        simp only [SigR.cs, List.getElem?_cons_zero, List.getElem?_cons_succ, Nat.add_zero] at c0 c1 c2
        have hxok := unhide HS _ (List.getElem_mem hlt)
        have hst := Lib.hid (openG_step (t := t) (ks := ks) (g := g) (r := r) hlt)
        have hk2 : (k : Int) < (S.length : Int) := by omega
        generalize S[k] = x at *
        obtain ⟨xn, xi, xm⟩ := x
        simp only at c0 c1 c2
        have hb1 : Below wr.heap.size wr (wr.alloc (.cells #[.string xn, .string xi, .string xm] 43)) := (Below.refl _ _).alloc (Nat.le_refl _) _
        have hB1 := hB.next hb1
        have hX1 : Blk (wr.alloc (.cells #[.string xn, .string xi, .string xm] 43)) wr.heap.size 43 #[.string xn, .string xi, .string xm] := Blk.new _ _ _
        have how := owner_any (.slice A ks.length c) ks ⟨xn, xi, xm⟩ (wr.alloc (.cells #[.string xn, .string xi, .string xm] 43)) (unhide HKS) hn ((unhide HV).below hB1.below) ((unhide HT).next hB1.below)
        unfold sigV at how
        have HOW := hide how; have H1 := hide (And.intro hB1 hX1); have HXO := hide hxok
        clear how hB1 hX1 hb1 hB hxok
        cases hof : ownerF ks ⟨xn, xi, xm⟩ with
        | none =>
          have hnx : Hid (openG t ks (S.drop (k + 1)) g (r ++ [⟨xn, xi, xm⟩]) = openG t ks S [] []) := by rw [Hid, ← hI.out, hst.out, hof]
          have hoa : ownerA ks ⟨xn, xi, xm⟩ = .tuple #[.agg #[.string ⟨#[]⟩, .string ⟨#[]⟩], .bool false] := by unfold ownerA; rw [hof]; rfl
          rw [hoa] at HOW
          clear hof hoa hst hI
          go_wp2_with fail
          generalize wr.heap.size = g11 at *
          generalize (wr.alloc (.cells #[.string xn, .string xi, .string xm] 43)) = w3 at *
          clear c0 c1 c2
          refine (unhide HOW).mono ?_
          rintro e w4 ⟨rfl, hb4⟩
          have hB4 := (unhide H1).1.next hb4
          have hX4 := (unhide H1).2.below hb4 (unhide H1).2.lt
          have hzM := hB4.b1.lt; have hz11 := hX4.lt; have hzN := hB4.b0.lt
          have m1 := hB4.b1.cell 1; have m2 := hB4.b1.cell 2; have k0 := hX4.cell 0; have k1 := hX4.cell 1; have k2 := hX4.cell 2
          simp only [List.getElem?_toArray, List.getElem?_cons_zero, List.getElem?_cons_succ] at m1 m2 k0 k1 k2
          have hB5 := hB4.next ((Below.refl w4.heap.size w4).alloc (Nat.le_refl _) (.cells #[.string ⟨#[]⟩, .string ⟨#[]⟩] 49))
          have H5 := hide hB5
          clear hB4 hX4 hB5 hb4 H1 HOW
          go_wp2_with (at_builtin; go_must (refine wpList_appG1_at (w4.alloc (.cells #[.string ⟨#[]⟩, .string ⟨#[]⟩] 49)) (w4.heap.size + 1) (World.size_alloc _ _) rfl _ _ rfl (y := ⟨xn, xi, xm⟩) (unhide H5).or rfl rfl (by omega) (by omega) ?_); intro v6 w6 hO6 hg6 hat6; obtain ⟨A6, cp6, rfl⟩ := hO6.slice; have hap := (unhide H5).rest hg6 hO6 hat6; have c56 := hap.1.cell 2; have f56 := hap.1.frozen 2; simp only [List.getElem?_toArray, List.getElem?_cons_zero, List.getElem?_cons_succ] at c56; have HAP := hide hap; clear hO6 hg6 hat6 hap)
          have hap2 := (unhide HAP).2
          simp only [List.length_append, List.length_cons, List.length_nil, Nat.zero_add] at hap2
          go_roundw
          case rel => exact ⟨k + 1, g, r ++ [⟨xn, xi, xm⟩], _, _, by omega, by go_num, hnx, by omega, by simp; omega, hap2⟩
          case measure => simp [RowKit.intOf]; omega
        | some y =>
          obtain ⟨yn, ysc⟩ := y
          have hyk : ysc.size ≤ 1099511627776 := by
            have h1 := List.mem_of_find?_eq_some hof
            exact (unhide HKS _ h1).2
          have hoa : ownerA ks ⟨xn, xi, xm⟩ = .tuple #[.agg #[.string yn, .string ysc], .bool true] := by unfold ownerA; rw [hof]; rfl
          have hst2 : Hid (openG t ks S [] [] = if xm = macB ysc t then openG t ks (S.drop (k + 1)) (g ++ [⟨xn, xi, xm⟩]) r else none) := by rw [Hid, ← hI.out, hst.out, hof]
          rw [hoa] at HOW
          clear hof hoa hst hI
          go_wp2_with fail
          generalize wr.heap.size = g11 at *
          generalize (wr.alloc (.cells #[.string xn, .string xi, .string xm] 43)) = w3 at *
          clear c0 c1 c2
          refine (unhide HOW).mono ?_
          rintro e w4 ⟨rfl, hb4⟩
          have hb5 : Below w4.heap.size w4 (w4.alloc (.cells #[.string yn, .string ysc] 49)) := (Below.refl _ _).alloc (Nat.le_refl _) _
          have hB5 := ((unhide H1).1.next hb4).next hb5
          have hX5 := ((unhide H1).2.below hb4 (unhide H1).2.lt).alloc (.cells #[.string yn, .string ysc] 49)
          have hY5 : Blk (w4.alloc (.cells #[.string yn, .string ysc] 49)) w4.heap.size 49 #[.string yn, .string ysc] := Blk.new _ _ _
          have hT5 := (unhide HT).next hB5.below
          have H5 := hide (And.intro hB5 (And.intro hX5 (And.intro hY5 hT5)))
          clear hB5 hX5 hY5 hb4 hb5 hT5 H1 HOW
          go_wp2_with fail
          generalize w4.heap.size = g12 at *
          generalize (w4.alloc (.cells #[.string yn, .string ysc] 49)) = w5 at *
          have x2 := (unhide H5).2.1.cell 2; have y1 := (unhide H5).2.2.1.cell 1
          simp only [List.getElem?_toArray, List.getElem?_cons_zero, List.getElem?_cons_succ] at x2 y1
          have hsum : ∀ W, PTab W → Calls Tryz.prog 22 #[.string ysc, .string t] W fun e w' => e = .returned (.string (macB ysc t)) ∧ Below W.heap.size W w' := fun W h => mac_any ysc t W (by omega) (by omega) h.1 h.2
          have hmz := macB_size ysc t
          have hsame := fun W => same_any xm (macB ysc t) W (by have := (unhide HXO).2.2; simp only at this; omega) (by omega)
          have HSUM := hide hsum; have HSAME := hide hsame
          clear hsum hsame hmz
          by_cases hmc : xm = macB ysc t
          · have hnx : Hid (openG t ks (S.drop (k + 1)) (g ++ [⟨xn, xi, xm⟩]) r = openG t ks S [] []) := by rw [Hid, hst2.out, if_pos hmc]
            rw [decide_eq_true hmc] at HSAME
            clear hst2 hmc
            generalize macB ysc t = mb at *
            go_region_held3 (fun W => W.cell? ⟨g11, 2, none⟩ = some (.string xm) ∧ W.cell? ⟨g12, 1, none⟩ = some (.string ysc)) (refine ⟨?_, ?_⟩ <;> assumption) (first | (go_at_call 22; refine ((unhide HSUM) _ (unhide H5).2.2.2.drew).mono ?_; rintro e w6 ⟨rfl, hb6⟩; have hX6 := (unhide H5).2.1.drew.below hb6 (unhide H5).2.1.lt; have hY6 := (unhide H5).2.2.1.drew.below hb6 (unhide H5).2.2.1.lt; have hB6 := (unhide H5).1.drew.next hb6; have x26 := hX6.cell 2; have y16 := hY6.cell 1; simp only [List.getElem?_toArray, List.getElem?_cons_zero, List.getElem?_cons_succ] at x26 y16) | (go_at_call 21; refine ((unhide HSAME) _).mono ?_; rintro e w7 ⟨rfl, n7, rfl⟩; have x27 : (w6.drewN n7).cell? ⟨g11, 2, none⟩ = some (.string xm) := x26; have y17 : (w6.drewN n7).cell? ⟨g12, 1, none⟩ = some (.string ysc) := y16))
            have hB7 := hB6.drewN n7
            have hX7 := hX6.drewN n7
            have hzM := hB7.b1.lt; have hz11 := hX7.lt; have hzN := hB7.b0.lt
            have m1 := hB7.b1.cell 1; have m2 := hB7.b1.cell 2; have k0 := hX7.cell 0; have k1 := hX7.cell 1; have k2 := hX7.cell 2
            simp only [List.getElem?_toArray, List.getElem?_cons_zero, List.getElem?_cons_succ] at m1 m2 k0 k1 k2
            have H7 := hide hB7
            clear hB6 hX6 hY6 hB7 hX7 hb6 x26 y16 x27 y17 x2 y1 H5 HSUM HSAME
            generalize (w6.drewN n7) = w7 at *
            go_wp2_with (at_builtin; go_must (refine wpList_appG1_at w7 w7.heap.size rfl rfl _ _ rfl (y := ⟨xn, xi, xm⟩) (unhide H7).og rfl rfl (by omega) (by omega) ?_); intro v8 w8 hO8 hg8 hat8; obtain ⟨A8, cp8, rfl⟩ := hO8.slice; have hap := (unhide H7).good hg8 hO8 hat8; have c56 := hap.1.cell 1; have f56 := hap.1.frozen 1; simp only [List.getElem?_toArray, List.getElem?_cons_zero, List.getElem?_cons_succ] at c56; have HAP := hide hap; clear hO8 hg8 hat8 hap)
            have hap2 := (unhide HAP).2
            simp only [List.length_append, List.length_cons, List.length_nil, Nat.zero_add] at hap2
            go_roundw
            case rel => exact ⟨k + 1, g ++ [⟨xn, xi, xm⟩], r, _, _, by omega, by go_num, hnx, by simp; omega, by omega, hap2⟩
            case measure => simp [RowKit.intOf]; omega
          · have hres : Hid (openV note ks = .error 201) := by rw [Hid, hov.out, hst2.out, if_neg hmc]
            rw [decide_eq_false hmc] at HSAME
            clear hst2 hmc hov
            generalize macB ysc t = mb at *
            go_region_held3 (fun W => W.cell? ⟨g11, 2, none⟩ = some (.string xm) ∧ W.cell? ⟨g12, 1, none⟩ = some (.string ysc)) (refine ⟨?_, ?_⟩ <;> assumption) (first | (go_at_call 22; refine ((unhide HSUM) _ (unhide H5).2.2.2.drew).mono ?_; rintro e w6 ⟨rfl, hb6⟩; have hX6 := (unhide H5).2.1.drew.below hb6 (unhide H5).2.1.lt; have hY6 := (unhide H5).2.2.1.drew.below hb6 (unhide H5).2.2.1.lt; have hB6 := (unhide H5).1.drew.next hb6; have x26 := hX6.cell 2; have y16 := hY6.cell 1; simp only [List.getElem?_toArray, List.getElem?_cons_zero, List.getElem?_cons_succ] at x26 y16) | (go_at_call 21; refine ((unhide HSAME) _).mono ?_; rintro e w7 ⟨rfl, n7, rfl⟩; have x27 : (w6.drewN n7).cell? ⟨g11, 2, none⟩ = some (.string xm) := x26; have y17 : (w6.drewN n7).cell? ⟨g12, 1, none⟩ = some (.string ysc) := y16))
            have hB7 := hB6.drewN n7
            have n0 := hB7.b0.cell 0; have n1 := hB7.b0.cell 1; have n2 := hB7.b0.cell 2; have f0 := hB7.b0.frozen 0; have f1 := hB7.b0.frozen 1; have f2 := hB7.b0.frozen 2
            simp only [List.getElem?_toArray, List.getElem?_cons_zero, List.getElem?_cons_succ] at n0 n1 n2
            have H7 := hide hB7
            clear hB6 hX6 hY6 hB7 hb6 x26 y16 x27 y17 x2 y1 H5 HSUM HSAME
            generalize (w6.drewN n7) = w7 at *
            go_wp2_with fail
            (try simp only [Exit.inBlock, Exit.then])
            refine bodyPost_ret (results_opened rfl _ _ w.heap.size _ _ _ rfl (blk3_store (unhide H7).b0 (.string ⟨#[]⟩) (.slice none 0 0) (.slice none 0 0))) rfl ?_
            exact ⟨OpenR.err 201 hres.out, below3_store (unhide H7).below (Nat.le_refl _) _ _ _⟩
      · have hk2 : ¬ (k : Int) < (S.length : Int) := by omega
        have hov2 : Hid (openV note ks = if g.length = 0 then .error 202 else .ok (t, g, r)) := by
          rw [Hid, hov.out, ← hI.out, List.drop_eq_nil_of_le hge]; rfl
        have m0 := hB.b1.cell 0; have m1 := hB.b1.cell 1; have m2 := hB.b1.cell 2
        have n0 := hB.b0.cell 0; have n1 := hB.b0.cell 1; have n2 := hB.b0.cell 2; have f0 := hB.b0.frozen 0; have f1 := hB.b0.frozen 1; have f2 := hB.b0.frozen 2
        simp only [List.getElem?_toArray, List.getElem?_cons_zero, List.getElem?_cons_succ] at m0 m1 m2 n0 n1 n2
        have HB := hide hB
        clear hI hov hB
        by_cases hg0 : g.length = 0
        · have hres : Hid (openV note ks = .error 202) := by rw [Hid, hov2.out, if_pos hg0]
          have h0' : ((g.length : Int) == 0) = true := by rw [hg0]; rfl
          clear hov2 hg0
          go_wp2_with fail
          (try simp only [Exit.inBlock, Exit.then])
          refine bodyPost_ret (results_opened rfl _ _ w.heap.size _ _ _ rfl (blk3_store (unhide HB).b0 (.string ⟨#[]⟩) (.slice none 0 0) (.slice none 0 0))) rfl ?_
          exact ⟨OpenR.err 202 hres.out, below3_store (unhide HB).below (Nat.le_refl _) _ _ _⟩
        · have hres : Hid (openV note ks = .ok (t, g, r)) := by rw [Hid, hov2.out, if_neg hg0]
          have h0' : ((g.length : Int) == 0) = false := by rw [beq_eq_false_iff_ne]; omega
          clear hov2 hg0
          go_wp2_with fail
          (try simp only [Exit.inBlock, Exit.then])
          refine bodyPost_ret (results_opened rfl _ _ w.heap.size _ _ _ rfl (blk3_store (unhide HB).b0 (.string t) (.slice Ag g.length cg) (.slice Ar r.length cr))) rfl ?_
          refine ⟨OpenR.ok hres.out ?_ ?_ (unhide HB).gr, below3_store (unhide HB).below (Nat.le_refl _) _ _ _⟩
          · exact (((((unhide HB).og.far (by simp) _).far (by simp) _).far (by simp) _).mono (by omega))
          · exact (((((unhide HB).or.far (by simp) _).far (by simp) _).far (by simp) _).mono (by omega))
end Go.Proofs.YtphoflcilpopgaaGreatDoor

set_option linter.unusedVariables false
set_option linter.unusedSimpArgs false
namespace Go.Proofs.YtphoflcilpopgaaGreatDoor
open Go.RowKit Go.Lib
theorem OwnG.at_ {w : World} {base n c : Nat} {A : Option Addr} {xs : List SigR} (h : OwnG w base (.slice A n c) xs) (j : Nat) (hj : j < xs.length) : ∃ g, A = some ⟨g, 0, none⟩ ∧ w.cell? ⟨g, j * 3, none⟩ = some (.string xs[j].nm) ∧ w.cell? ⟨g, j * 3 + 1, none⟩ = some (.string xs[j].id) ∧ w.cell? ⟨g, j * 3 + 2, none⟩ = some (.string xs[j].mc) := by
  rcases h.form with ⟨_, he⟩ | ⟨g, cap, hv, h1, h2, h3⟩
  · rw [he] at hj; simp at hj
  · injection hv with e1 e2 e3
    subst e1 e2 e3
    exact ⟨g, rfl, h.cell j 0 hj (by omega), h.cell j 1 hj (by omega), h.cell j 2 hj (by omega)⟩
set_option maxRecDepth 100000 in
set_option maxHeartbeats 1000000 in
/-- Two lists of signatures that read alike are alike. -/
theorem same_eq (a b : Value) (xs : List SigR) (w : World) (b1 b2 : Nat) (hn : xs.length ≤ 1099511627776) (ha : OwnG w b1 a xs) (hb : OwnG w b2 b xs) :
    Calls Tryz.prog 28 #[a, b] w fun e w' => e = .returned (.bool true) ∧ ∃ nd, w' = w.drewN nd := by
  obtain ⟨A, c, rfl⟩ := ha.slice
  obtain ⟨B, d, rfl⟩ := hb.slice
  have HA := hide ha; have HB := hide hb; clear ha hb
  go_enter Tryz.func28, Tryz.ntmps28
  go_wp2_with fail
  go_loopw [5] (fun i wr => ∃ k : Nat, i = .int .i64 k ∧ k ≤ xs.length ∧ ∃ nd, Hid (wr = w.drewN nd)) (fun i _ => xs.length - (RowKit.intOf i).toNat)
  case atStart => exact ⟨0, rfl, by omega, 0, Lib.hid rfl⟩
  case round =>
    obtain ⟨k, rfl, hk, nd, hw⟩ := hrel
    have hw' := hw.out
    subst hw'
    rcases Nat.lt_or_ge k xs.length with hlt | hge
    · obtain ⟨p, rfl, c0, c1, c2⟩ := ((unhide HA).drewN nd).at_ k hlt
      obtain ⟨q, rfl, d0, d1, d2⟩ := ((unhide HB).drewN nd).at_ k hlt
      have hk2 : (k : Int) < (xs.length : Int) := by omega
      have k0 : (0 : Int) ≤ (k : Int) := by omega
      generalize xs[k] = x at *
      obtain ⟨xn, xi, xm⟩ := x
      simp only at c0 c1 c2 d0 d1 d2
      have e0 : w.cell? ⟨p, k * 3, none⟩ = some (.string xn) := c0
      have e1 : w.cell? ⟨p, k * 3 + 1, none⟩ = some (.string xi) := c1
      have e2 : w.cell? ⟨p, k * 3 + 2, none⟩ = some (.string xm) := c2
      have g0 : w.cell? ⟨q, k * 3, none⟩ = some (.string xn) := d0
      have g1 : w.cell? ⟨q, k * 3 + 1, none⟩ = some (.string xi) := d1
      have g2 : w.cell? ⟨q, k * 3 + 2, none⟩ = some (.string xm) := d2
      go_wp2_with fail
      go_quiet (fail)
      go_wp2_with fail
      refine ⟨⟨k + 1, by go_num, by omega, nd + nq, Lib.hid rfl⟩, by simp [RowKit.intOf]; omega⟩
    · go_wp2_with fail
      go_ret
      exact ⟨rfl, nd, rfl⟩
set_option maxRecDepth 100000 in
set_option maxHeartbeats 1000000 in
theorem opened_eq (t : ByteArray) (vg vr ug ur : Value) (g r : List SigR) (w : World) (b1 b2 b3 b4 : Nat) (hg : g.length ≤ 1099511627776) (hr : r.length ≤ 1099511627776)
    (h1 : OwnG w b1 vg g) (h2 : OwnG w b2 vr r) (h3 : OwnG w b3 ug g) (h4 : OwnG w b4 ur r) :
    Calls Tryz.prog 10 #[.agg #[.string t, vg, vr], .agg #[.string t, ug, ur]] w fun e w' => e = .returned (.bool true) ∧ Below w.heap.size w w' := by
  obtain ⟨A, c, rfl⟩ := h1.slice
  obtain ⟨B, d, rfl⟩ := h2.slice
  obtain ⟨A', c', rfl⟩ := h3.slice
  obtain ⟨B', d', rfl⟩ := h4.slice
  have hb0 : Below w.heap.size w ((w.alloc (.cells #[.string t, .slice A g.length c, .slice B r.length d] 25)).alloc (.cells #[.string t, .slice A' g.length c', .slice B' r.length d'] 25)) := ((Below.refl _ _).alloc (Nat.le_refl _) _).alloc (by simp) _
  have H0 := hide (And.intro hb0 (And.intro (h1.below hb0) (And.intro (h2.below hb0) (And.intro (h3.below hb0) (h4.below hb0)))))
  have hB1 : Blk ((w.alloc (.cells #[.string t, .slice A g.length c, .slice B r.length d] 25)).alloc (.cells #[.string t, .slice A' g.length c', .slice B' r.length d'] 25)) w.heap.size 25 #[.string t, .slice A g.length c, .slice B r.length d] := (Blk.new _ _ _).alloc _
  have hB2 : Blk ((w.alloc (.cells #[.string t, .slice A g.length c, .slice B r.length d] 25)).alloc (.cells #[.string t, .slice A' g.length c', .slice B' r.length d'] 25)) (w.heap.size + 1) 25 #[.string t, .slice A' g.length c', .slice B' r.length d'] := Blk.new_ (by simp) _ _
  clear h1 h2 h3 h4 hb0
  have hss : (t.toList == t.toList) = true := beq_self_eq_true _
  go_enter Tryz.func10, Tryz.ntmps10
  have HB := hide (And.intro hB1 hB2); clear hB1 hB2
  go_wp2_with fail
  generalize ((w.alloc (.cells #[.string t, .slice A g.length c, .slice B r.length d] 25)).alloc (.cells #[.string t, .slice A' g.length c', .slice B' r.length d'] 25)) = w2 at *
  refine (same_eq _ _ g w2 _ _ hg (unhide H0).2.1 (unhide H0).2.2.2.1).mono ?_
  rintro e w3 ⟨rfl, nd, rfl⟩
  have c2 := ((unhide HB).1.drewN nd).cell 2; have d2 := ((unhide HB).2.drewN nd).cell 2
  have c2' := (unhide HB).1.cell 2; have d2' := (unhide HB).2.cell 2
  simp only [List.getElem?_toArray, List.getElem?_cons_zero, List.getElem?_cons_succ] at c2 d2 c2' d2'
  go_wp2_with fail
  refine (same_eq _ _ r (w2.drewN nd) _ _ hr ((unhide H0).2.2.1.drewN nd) ((unhide H0).2.2.2.2.drewN nd)).mono ?_
  rintro e w4 ⟨rfl, nd2, rfl⟩
  go_wp2_with fail
  go_ret
  exact ⟨rfl, below_drewN (unhide H0).1 (nd + nd2)⟩
/-- An answer of Open as four things. -/
def openX (note : ByteArray) (ks : List KeyR) : ByteArray × List SigR × List SigR × Nat := match openV note ks with
  | .error n => (⟨#[]⟩, [], [], n)
  | .ok (t, g, r) => (t, g, r, 0)
theorem openG_len (t : ByteArray) (ks : List KeyR) : ∀ (S g r g' r' : List SigR), openG t ks S g r = some (g', r') → g'.length + r'.length = g.length + r.length + S.length
  | [], g, r, g', r', h => by simp only [openG, Option.some.injEq, Prod.mk.injEq] at h; obtain ⟨rfl, rfl⟩ := h; simp
  | x :: xs, g, r, g', r', h => by
    rw [openG] at h
    split at h
    · have := openG_len t ks xs g (r ++ [x]) g' r' h
      simp at this ⊢; omega
    · split at h
      · have := openG_len t ks xs (g ++ [x]) r g' r' h
        simp at this ⊢; omega
      · cases h
theorem openX_len (note : ByteArray) (ks : List KeyR) : (openX note ks).2.1.length + (openX note ks).2.2.1.length ≤ 16 ∧ (openX note ks).2.2.2 < 1000 := by
  unfold openX openV
  split
  · rename_i n h
    refine ⟨by simp, ?_⟩
    split at h
    · cases h; decide
    · split at h
      · cases h; decide
      · split at h
        · cases h; decide
        · split at h
          · cases h; decide
          · cases h
  · rename_i t g r h
    refine ⟨?_, by show 0 < 1000; decide⟩
    split at h
    · cases h
    · split at h
      · cases h
      · rename_i t0 S hr
        have h2 := (readV_ok hr).2.2.1
        split at h
        · cases h
        · rename_i g0 r0 ho
          split at h
          · cases h
          · injection h with h
            injection h with e1 h
            injection h with e2 e3
            subst e1 e2 e3
            have h3 := openG_len _ _ _ _ _ _ _ ho
            simp only [List.length_nil] at h3
            show g0.length + r0.length ≤ 16
            omega
theorem OpenR.parts {N : Nat} {note : ByteArray} {ks : List KeyR} {e : Ending} {w' : World} (h : OpenR N note ks e w') :
    ∃ vg vr, e = .returned (.tuple #[.agg #[.string (openX note ks).1, vg, vr], .int .i64 ((openX note ks).2.2.2 : Nat)]) ∧ OwnG w' N vg (openX note ks).2.1 ∧ OwnG w' N vr (openX note ks).2.2.1 ∧ (∀ k, vg.ownBlock = some k → vr.ownBlock ≠ some k) := by
  unfold OpenR at h
  split at h
  · rename_i n hn
    have e1 : openX note ks = (⟨#[]⟩, [], [], n) := by unfold openX; rw [hn]
    rw [e1]
    exact ⟨.slice none 0 0, .slice none 0 0, h, OwnG.nil _ _, OwnG.nil _ _, fun k hk => by simp [Value.ownBlock] at hk⟩
  · rename_i t g r hn
    have e1 : openX note ks = (t, g, r, 0) := by unfold openX; rw [hn]
    rw [e1]
    obtain ⟨vg, vr, h1, h2, h3, h4⟩ := h
    exact ⟨vg, vr, h1, h2, h3, h4⟩
end Go.Proofs.YtphoflcilpopgaaGreatDoor

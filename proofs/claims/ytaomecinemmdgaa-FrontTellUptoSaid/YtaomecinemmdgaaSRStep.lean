/-
  CONTRACT of the document's StepOf.
-/
import Derived.Test.YtaomecinemmdgaaRows
import Derived.Deep.RegionHeld3
import Derived.Deep.DeepCutAuto
import Derived.Deep.CutBlock
import Derived.Deep.CutRange
import Derived.StillTailTactics
import Derived.Test.YtaomecinemmdgaaGBase
import Derived.Test.YtaomecinemmdgaaGLns
import Derived.Test.YtaomecinemmdgaaSRRow
import Derived.Test.YtaomecinemmdgaaSTwinI
import Derived.Test.YtaomecinemmdgaaSStepP
import Derived.Test.YtaomecinemmdgaaSRStepA
set_option linter.unusedVariables false
set_option linter.unusedSimpArgs false
namespace Go.Proofs.Ytaomecinemmdgaa
open Go.RowKit Go.Lib
def zeroStep : Array Value := #[.int .i64 0, .slice none 0 0, .slice none 0 0, .int .i64 0, .int .i64 0, .int .i64 0, .int .i64 0, .int .i64 0, .int .i64 0]
/-- What a step's reader answers. -/
def StepV (w' : World) (base : Nat) (r : Nat ⊕ StepR) (e : Ending) : Prop := match r with
  | .inl c => e = .returned (.tuple #[.agg zeroStep, .int .i64 (c : Int)])
  | .inr s => ∃ x : TE, x.step = s ∧ e = .returned (.tuple #[.agg x.cs.toArray, .int .i64 0]) ∧ OwnI w' base x.vn x.ns ∧ OwnT w' base x.vs x.ss
theorem results_step {fn : Func} {p u : Tmp} (h : fn.results = #[.cell p 52, .tmp u]) (tmps : Array Value) (w : World) (g : Nat) (cs : Array Value) (hz : cs.size = 9) (hp : tmps.getD p undef = .pointer (some ⟨g, 0, none⟩)) (hB : Blk w g 52 cs) :
    (results fn tmps).run Try.prog w = .ok (.tuple #[.agg cs, tmps.getD u undef]) w := by
  rw [results_cell_tmp h, hp]
  have hl := run_loadVar_row (P := Try.prog) w g 52 52 cs (0, 0) _ hB Try.underlying52 rfl (by rw [hz]; kernel_rfl)
  simp [asAddr, hl, Result.andThen]
theorem blk9_store {w : World} {g : Nat} {b0 b1 b2 b3 b4 b5 b6 b7 b8 : Value} (hB : Blk w g 52 #[b0, b1, b2, b3, b4, b5, b6, b7, b8]) (a0 a1 a2 a3 a4 a5 a6 a7 a8 : Value) :
    Blk (((((((((w.setCell ⟨g, 0, none⟩ a0).setCell ⟨g, 1, none⟩ a1).setCell ⟨g, 2, none⟩ a2).setCell ⟨g, 3, none⟩ a3).setCell ⟨g, 4, none⟩ a4).setCell ⟨g, 5, none⟩ a5).setCell ⟨g, 6, none⟩ a6).setCell ⟨g, 7, none⟩ a7).setCell ⟨g, 8, none⟩ a8) g 52 #[a0, a1, a2, a3, a4, a5, a6, a7, a8] := by
  have h := ((((((((hB.set_ 0 a0).set_ 1 a1).set_ 2 a2).set_ 3 a3).set_ 4 a4).set_ 5 a5).set_ 6 a6).set_ 7 a7).set_ 8 a8
  simpa using h
theorem stepO_0 {ws : List ByteArray} (h : kindP (ws.headD ⟨#[]⟩) = 0) : stepO ws = .inl 300 := by
  unfold stepO
  simp only
  rw [if_pos h]
theorem stepO_1 {ws : List ByteArray} {k : Nat} (h : kindP (ws.headD ⟨#[]⟩) = k) (hk : k ≠ 0) (hf : fits (shapeAt k) (ws.length - 1) = false) : stepO ws = .inl 300 := by
  unfold stepO
  simp only
  rw [h, if_neg hk, if_pos hf]
theorem stepO_2 {ws : List ByteArray} {k : Nat} (h : kindP (ws.headD ⟨#[]⟩) = k) (hk : k ≠ 0) (hf : fits (shapeAt k) (ws.length - 1) = true) (hN : numsO ((ws.drop 1).take (numN (shapeAt k) (ws.length - 1))) = none) : stepO ws = .inl 42 := by
  unfold stepO
  simp only
  rw [h, if_neg hk, if_neg (by rw [hf]; simp), hN]
theorem stepO_3 {ws : List ByteArray} {k : Nat} {ns : List Int} (h : kindP (ws.headD ⟨#[]⟩) = k) (hk : k ≠ 0) (hf : fits (shapeAt k) (ws.length - 1) = true) (hN : numsO ((ws.drop 1).take (numN (shapeAt k) (ws.length - 1))) = some ns) :
    stepO ws = .inr ⟨k, if (shapeAt k).opts = true then ns else zero6, if (shapeAt k).opts = true then [] else ns, ws.drop (1 + numN (shapeAt k) (ws.length - 1))⟩ := by
  unfold stepO
  simp only
  rw [h, if_neg hk, if_neg (by rw [hf]; simp), hN]
theorem below9 {B : Nat} {w W : World} {g : Nat} (hb : Below B w W) (hg : B ≤ g) (a0 a1 a2 a3 a4 a5 a6 a7 a8 : Value) :
    Below B w (((((((((W.setCell ⟨g, 0, none⟩ a0).setCell ⟨g, 1, none⟩ a1).setCell ⟨g, 2, none⟩ a2).setCell ⟨g, 3, none⟩ a3).setCell ⟨g, 4, none⟩ a4).setCell ⟨g, 5, none⟩ a5).setCell ⟨g, 6, none⟩ a6).setCell ⟨g, 7, none⟩ a7).setCell ⟨g, 8, none⟩ a8) :=
  ((((((((hb.setCell (p := ⟨g, 0, none⟩) hg a0).setCell (p := ⟨g, 1, none⟩) hg a1).setCell (p := ⟨g, 2, none⟩) hg a2).setCell (p := ⟨g, 3, none⟩) hg a3).setCell (p := ⟨g, 4, none⟩) hg a4).setCell (p := ⟨g, 5, none⟩) hg a5).setCell (p := ⟨g, 6, none⟩) hg a6).setCell (p := ⟨g, 7, none⟩) hg a7).setCell (p := ⟨g, 8, none⟩) hg a8
theorem sub_strs {w : World} {g m cap n c : Nat} {ws : List ByteArray} (h : StrsAt w (.slice (some ⟨g, 0, none⟩) m cap) ws) (hn : n + 1 ≤ ws.length) : StrsAt w (.slice (some ⟨g, 1, none⟩) n c) ((ws.drop 1).take n) := by
  have hl : ((ws.drop 1).take n).length = n := by rw [List.length_take, List.length_drop]; omega
  refine ⟨some ⟨g, 1, none⟩, c, by rw [hl], fun j hj => ⟨_, rfl, ?_⟩⟩
  rw [hl] at hj
  obtain ⟨a, ha, h1⟩ := strs_at h (j + 1) (by omega)
  injection ha with ha
  subst ha
  have e1 : (⟨g, 0, none⟩ : Addr).add (j + 1) = ⟨g, j + 1, none⟩ := by unfold Addr.add; rw [if_neg (by omega)]; simp
  have e2 : (⟨g, 1, none⟩ : Addr).add j = ⟨g, j + 1, none⟩ := by unfold Addr.add; split <;> simp_all <;> omega
  rw [e2, ← e1, h1, List.getElem_take, List.getElem_drop]
  simp only [Nat.add_comm 1 j]
theorem zero_strs {w : World} {A : Option Addr} {n c : Nat} {ws : List ByteArray} (hn : n = 0) : StrsAt w (.slice A n c) ((ws.drop 1).take n) := by
  subst hn
  exact ⟨A, c, by simp, fun j hj => absurd hj (by simp)⟩
theorem far9 {w : World} {base : Nat} {ty : TypeId} {size n : Nat} {v : Value} {xs : List Value} (h : w.ownsRow base ty size v n xs) {g : Nat} (hg : g < base) (a0 a1 a2 a3 a4 a5 a6 a7 a8 : Value) :
    (((((((((w.setCell ⟨g, 0, none⟩ a0).setCell ⟨g, 1, none⟩ a1).setCell ⟨g, 2, none⟩ a2).setCell ⟨g, 3, none⟩ a3).setCell ⟨g, 4, none⟩ a4).setCell ⟨g, 5, none⟩ a5).setCell ⟨g, 6, none⟩ a6).setCell ⟨g, 7, none⟩ a7).setCell ⟨g, 8, none⟩ a8).ownsRow base ty size v n xs :=
  row_far (row_far (row_far (row_far (row_far (row_far (row_far (row_far (row_far h (p := ⟨g, 0, none⟩) hg) (p := ⟨g, 1, none⟩) hg) (p := ⟨g, 2, none⟩) hg) (p := ⟨g, 3, none⟩) hg) (p := ⟨g, 4, none⟩) hg) (p := ⟨g, 5, none⟩) hg) (p := ⟨g, 6, none⟩) hg) (p := ⟨g, 7, none⟩) hg) (p := ⟨g, 8, none⟩) hg
/-- What stands while a step's texts are taken. -/
structure RsX (w W : World) (gs : Nat) (k : Int) (vn vs : Value) (a b c d e f : Int) (N : List Int) (acc : List ByteArray) : Prop where
  s : Blk W gs 52 #[.int .i64 k, vn, vs, .int .i64 a, .int .i64 b, .int .i64 c, .int .i64 d, .int .i64 e, .int .i64 f]
  z : Blk W w.heap.size 52 #[.int .i64 0, .slice none 0 0, .slice none 0 0, .int .i64 0, .int .i64 0, .int .i64 0, .int .i64 0, .int .i64 0, .int .i64 0]
  n : OwnI W (w.heap.size + 1) vn N
  lo : ∀ q, vn.ownBlock = some q → q < gs
  t : OwnT W (gs + 1) vs acc
  b : Below w.heap.size w W
  lt : w.heap.size < gs
theorem RsX.app {w W W' : World} {gs : Nat} {k : Int} {vn vs vs' : Value} {a b c d e f : Int} {N : List Int} {acc acc' : List ByteArray} {o : Obj} (h : RsX w W gs k vn vs a b c d e f N acc) (hO : OwnT W' (gs + 1) vs' acc') (hg : (W.alloc o).grownBy W' vs.ownBlock) :
    RsX w (W'.setCell ⟨gs, 2, none⟩ vs') gs k vn vs' a b c d e f N acc' :=
  have hl := h.lt
  have hz : (W.alloc o).heap.size = W.heap.size + 1 := by simp
  have hn1 : OwnI W' (w.heap.size + 1) vn N := World.ownsRow.kept (World.ownsRow.alloc h.n o) hg (row_ne (World.ownsRow.alloc h.n o) (World.ownsRow.alloc h.t o) (by decide))
  ⟨(((h.s.alloc o).grown hg (fun e => by have := (World.ownsRow.lt h.t gs e.symm).1; omega)).set_ 2 vs'),
   ((h.z.alloc o).grown hg (fun e => by have := (World.ownsRow.lt h.t _ e.symm).1; omega)).far (p := ⟨gs, 2, none⟩) (by show w.heap.size ≠ gs; omega) _,
   row_low hn1 h.lo ((Below.refl gs W').setCell (p := ⟨gs, 2, none⟩) (Nat.le_refl _) _), h.lo,
   row_far hO (p := ⟨gs, 2, none⟩) (Nat.lt_succ_self _),
   ((h.b.alloc h.b.size o).grown hg (by have := h.b.size; omega) (fun q hq => by have := (World.ownsRow.lt h.t q hq).1; omega)).setCell (p := ⟨gs, 2, none⟩) (by show w.heap.size ≤ gs; omega) _, hl⟩
theorem ints_at {w : World} {A : Option Addr} {m c : Nat} {es : List Int} (h : IntsAt w (.slice A m c) es) (j : Nat) (hj : j < es.length) : ∃ a, A = some a ∧ w.cell? (a.add j) = some (.int .i64 es[j]) := by
  obtain ⟨A', c', hv, hc⟩ := h
  injection hv with e1 e2 e3
  subst e1
  exact hc j hj
theorem ownI6 {w : World} {base m cp : Nat} {A : Option Addr} {a b c d e f : Int} (h : OwnI w base (.slice A m cp) [a, b, c, d, e, f]) : ∃ g, A = some ⟨g, 0, none⟩ ∧ w.cell? ⟨g, 0, none⟩ = some (.int .i64 a) ∧ w.cell? ⟨g, 1, none⟩ = some (.int .i64 b) ∧ w.cell? ⟨g, 2, none⟩ = some (.int .i64 c) ∧ w.cell? ⟨g, 3, none⟩ = some (.int .i64 d) ∧ w.cell? ⟨g, 4, none⟩ = some (.int .i64 e) ∧ w.cell? ⟨g, 5, none⟩ = some (.int .i64 f) := by
  rcases id h.2 with ⟨hv, hn⟩ | ⟨g, cap, cur, hv, -, -, -⟩
  · simp at hn
  · injection hv with e1 e2 e3
    subst e1 e2 e3
    have hc := fun j hj => World.ownsRow.cellAt h j hj
    exact ⟨g, rfl, hc 0 (by simp), hc 1 (by simp), hc 2 (by simp), hc 3 (by simp), hc 4 (by simp), hc 5 (by simp)⟩
theorem step_appT {ops : Array Oper} {o : Oper} {a : Act} {K : Act → World → Prop} {Q : Exit → Act → World → Prop} {E : Prop} (w : World) (hgd : o.guard = none) (s x : Operand)
    (ho : o.op = .call { callee := .builtin .append, args := #[s, x], argTypes := #[28, 28] })
    {base : Nat} {v : Value} {es : List ByteArray} (hown : OwnT w base v es) (hs : a.eval s = v) {A : Option Addr} {m c : Nat} {es2 : List ByteArray} (hr : StrsAt w (.slice A m c) es2) (hx : a.eval x = .slice A m c)
    (h47 : es.length + es2.length ≤ 4398046511104) (hbase : base ≤ w.heap.size)
    (h : ∀ v' w', OwnT w' base v' (es ++ es2) → w.grownBy w' v.ownBlock → (v'.ownBlock = v.ownBlock ∨ v'.ownBlock = some w.heap.size) → K (a.put o.dst v') w') :
    if Region.wanted o (yielded ops a.tmps) = true then Oper.wp Try.prog o a w K Q else E := by
  obtain ⟨i, hi, hz, hs1, hb1⟩ := info_parts strInfo
  obtain ⟨hm, hrd⟩ := hr.reads
  refine step_append_any (w := w) hgd s x 28 ho base 9 i (.string ⟨#[]⟩) 1 16 Try.underlying28 hi hz hs1 hb1 rfl (by decide) v es.length (es.map Value.string) hs hown w.heap.size A m c (es2.map Value.string) hx hrd ?_ ?_ ?_ hbase ?_
  · intro u hu
    obtain ⟨y, _, rfl⟩ := List.mem_map.1 hu
    rfl
  · simp only [maxLen]; omega
  · omega
  · intro v' w' h1 h2 h3
    refine h v' w' ?_ h2 h3
    unfold OwnT
    rw [List.map_append, List.length_append, ← hm]
    exact h1
theorem one_strs (w : World) (x : ByteArray) : StrsAt (w.alloc (.cells #[.string x] 9)).drew (.slice (some ⟨w.heap.size, 0, none⟩) 1 1) [x] := by
  refine ⟨some ⟨w.heap.size, 0, none⟩, 1, rfl, fun j hj => ⟨_, rfl, ?_⟩⟩
  obtain rfl : j = 0 := by simp at hj; exact hj
  have hadd : (⟨w.heap.size, 0, none⟩ : Addr).add 0 = ⟨w.heap.size, 0, none⟩ := by unfold Addr.add; simp
  rw [hadd]
  exact ((Blk.new w 9 #[.string x]).drew).cell 0
theorem grown_undrew {W W' : World} {r : Option Nat} (hg : W.drew.grownBy W' r) : W.grownBy W' r := ⟨hg.os, hg.tape, hg.output, hg.size, hg.block⟩
structure StX (w W : World) (gr : Nat) (F : ShapeR) : Prop where
  z : Blk W w.heap.size 52 #[.int .i64 0, .slice none 0 0, .slice none 0 0, .int .i64 0, .int .i64 0, .int .i64 0, .int .i64 0, .int .i64 0, .int .i64 0]
  r : Blk W gr 104 #[.string F.wd, .int .i64 (F.a : Int), .int .i64 (F.b : Int), .int .i64 (F.more : Int), .bool F.opts]
  b : Below w.heap.size w W
  n : w.heap.size < gr
theorem StX.call {w W W' : World} {gr : Nat} {F : ShapeR} (h : StX w W gr F) (hb : Below W.heap.size W W') : StX w W' gr F :=
  ⟨h.z.below hb h.z.lt, h.r.below hb h.r.lt, h.b.trans (hb.mono h.b.size), h.n⟩
theorem fits_n (F : ShapeR) (n n0 : Nat) (h : (if F.opts = true then 6 else F.a) = n0) : fits F n = (decide (n0 + F.b ≤ n) && (decide (n ≤ n0 + F.b) || decide (F.more ≠ 0))) := by unfold fits; rw [h]
theorem rs_opts {w W : World} {gs gr : Nat} {k : Int} {F : ShapeR} {a b c d e f : Int} {N : List Int} (hS : Blk W gs 52 #[.int .i64 k, .slice none 0 0, .slice none 0 0, .int .i64 0, .int .i64 0, .int .i64 0, .int .i64 0, .int .i64 0, .int .i64 0]) (hX : StX w W gr F) (hl : w.heap.size < gs) (hN : N = []) :
    RsX w ((((((W.setCell ⟨gs, 3, none⟩ (.int .i64 a)).setCell ⟨gs, 4, none⟩ (.int .i64 b)).setCell ⟨gs, 5, none⟩ (.int .i64 c)).setCell ⟨gs, 6, none⟩ (.int .i64 d)).setCell ⟨gs, 7, none⟩ (.int .i64 e)).setCell ⟨gs, 8, none⟩ (.int .i64 f)) gs k (.slice none 0 0) (.slice none 0 0) a b c d e f N [] := by
  subst hN
  have hS6 := (((((hS.set_ 3 (.int .i64 a)).set_ 4 (.int .i64 b)).set_ 5 (.int .i64 c)).set_ 6 (.int .i64 d)).set_ 7 (.int .i64 e)).set_ 8 (.int .i64 f)
  have hb6 : ∀ {B : Nat}, B ≤ gs → Below B W ((((((W.setCell ⟨gs, 3, none⟩ (.int .i64 a)).setCell ⟨gs, 4, none⟩ (.int .i64 b)).setCell ⟨gs, 5, none⟩ (.int .i64 c)).setCell ⟨gs, 6, none⟩ (.int .i64 d)).setCell ⟨gs, 7, none⟩ (.int .i64 e)).setCell ⟨gs, 8, none⟩ (.int .i64 f)) := fun {B} hB => (((((((Below.refl B W).setCell (p := ⟨gs, 3, none⟩) hB _).setCell (p := ⟨gs, 4, none⟩) hB _).setCell (p := ⟨gs, 5, none⟩) hB _).setCell (p := ⟨gs, 6, none⟩) hB _).setCell (p := ⟨gs, 7, none⟩) hB _).setCell (p := ⟨gs, 8, none⟩) hB _)
  exact ⟨by simpa using hS6, hX.z.below (hb6 (Nat.le_refl _)) hl, World.ownsRow_nil _ _ _ _, fun q hq => by simp [Value.ownBlock] at hq, World.ownsRow_nil _ _ _ _, hX.b.trans (hb6 (by omega)), hl⟩
set_option maxRecDepth 100000 in
set_option maxHeartbeats 4000000 in
theorem rstep_any (v : Value) (b0 : Nat) (ws : List ByteArray) (w : World) (hO : OwnT w b0 v ws) (hne : ws ≠ []) (hz : ∀ x ∈ ws, x.size ≤ 1099511627776) (hn : ws.length ≤ 1099511627776) :
    Calls Try.prog 47 #[v] w fun e w' => StepV w' w.heap.size (stepO ws) e ∧ Below w.heap.size w w' := by
  obtain ⟨gw, cap, rfl, -, hgw, hcap⟩ : ∃ g cap, v = .slice (some ⟨g, 0, none⟩) ws.length cap ∧ b0 ≤ g ∧ g < w.heap.size ∧ ws.length ≤ cap := by
    rcases hO.form with ⟨_, he⟩ | h
    · exact absurd he hne
    · exact h
  have hlen : 0 < ws.length := List.length_pos_iff.2 hne
  have hS := ownT_strs hO
  have hc0 : w.cell? ⟨gw, 0, none⟩ = some (.string (ws.headD ⟨#[]⟩)) := by
    obtain ⟨a, ha, h⟩ := strs_at hS 0 hlen
    injection ha with ha
    subst ha
    rw [show ((⟨gw, 0, none⟩ : Addr).add 0) = ⟨gw, 0, none⟩ from rfl] at h
    rw [h]
    cases ws with
    | nil => exact absurd rfl hne
    | cons x r => rfl
  have hd := hz (ws.headD ⟨#[]⟩) (by cases ws with | nil => exact absurd rfl hne | cons x r => exact List.mem_cons_self ..)
  obtain ⟨k, hk⟩ : ∃ k, Hid (kindP (ws.headD ⟨#[]⟩) = k) := ⟨_, Lib.hid rfl⟩
  have hk34 : k ≤ 34 := by rw [← hk.out]; exact kindP_le _
  have hkd := fun W => rkind_any (ws.headD ⟨#[]⟩) W hd
  rw [hk.out] at hkd
  obtain ⟨x0, hx0⟩ : ∃ x, Hid (ws.headD ⟨#[]⟩ = x) := ⟨_, Lib.hid rfl⟩
  rw [hx0.out] at hc0 hkd
  have HS := hide (And.intro hS hz); have HK := hide hkd; clear hS hz hkd hO hd hne
  have t1 : (0 : Int) < (ws.length : Int) := by omega
  have hk0 : (0 : Int) ≤ (k : Int) := by omega
  go_enter Try.func47, Try.ntmps47
  go_wp2_with fail
  refine ((unhide HK) _).mono ?_
  rintro e1 w1 ⟨rfl, hb1⟩
  have hB0 := Blk.new w 52 #[.int .i64 0, .slice none 0 0, .slice none 0 0, .int .i64 0, .int .i64 0, .int .i64 0, .int .i64 0, .int .i64 0, .int .i64 0]
  have hb0 : Below w.heap.size w (w.alloc (.cells #[.int .i64 0, .slice none 0 0, .slice none 0 0, .int .i64 0, .int .i64 0, .int .i64 0, .int .i64 0, .int .i64 0, .int .i64 0] 52)) := (Below.refl _ _).alloc (Nat.le_refl _) _
  have hB1 := hB0.below hb1 hB0.lt
  have hb2 := hb0.trans (hb1.mono hb0.size)
  have H1 := hide (And.intro hB1 hb2); clear hB0 hb0 hb1 hB1 hb2 HK hc0
  have f0 := (unhide H1).1.frozen 0; have f1 := (unhide H1).1.frozen 1; have f2 := (unhide H1).1.frozen 2; have f3 := (unhide H1).1.frozen 3; have f4 := (unhide H1).1.frozen 4; have f5 := (unhide H1).1.frozen 5; have f6 := (unhide H1).1.frozen 6; have f7 := (unhide H1).1.frozen 7; have f8 := (unhide H1).1.frozen 8
  have k0 := (unhide H1).1.cell 0; have k1 := (unhide H1).1.cell 1; have k2 := (unhide H1).1.cell 2; have k3 := (unhide H1).1.cell 3; have k4 := (unhide H1).1.cell 4; have k5 := (unhide H1).1.cell 5; have k6 := (unhide H1).1.cell 6; have k7 := (unhide H1).1.cell 7; have k8 := (unhide H1).1.cell 8
  simp only [List.getElem?_toArray, List.getElem?_cons_zero, List.getElem?_cons_succ] at k0 k1 k2 k3 k4 k5 k6 k7 k8
  by_cases hkz : k = 0
  · have hr := Lib.hid (stepO_0 (ws := ws) (by rw [hk.out, hkz]))
    have q1 : ((k : Int) == 0) = true := by rw [beq_iff_eq]; omega
    have q2 : (k : Int) = 0 := by omega
    clear hkz
    go_wp2_with fail
    refine bodyPost_ret (results_step rfl _ _ w.heap.size _ rfl rfl (blk9_store (unhide H1).1 _ _ _ _ _ _ _ _ _)) rfl ?_
    exact ⟨by rw [hr.out]; rfl, below9 (unhide H1).2 (Nat.le_refl _) _ _ _ _ _ _ _ _ _⟩
  · have q1 : ((k : Int) == 0) = false := by rw [beq_eq_false_iff_ne]; omega
    have q2 : ¬ (k : Int) = 0 := by omega
    clear f0 f1 f2 f3 f4 f5 f6 f7 f8 k0 k1 k2 k3 k4 k5 k6 k7 k8
    have hrow := row_any k w1 (by omega) hk34
    unfold rowV at hrow
    obtain ⟨F, hF⟩ : ∃ F, Hid (shapeAt k = F) := ⟨_, Lib.hid rfl⟩
    rw [hF.out] at hrow
    have HR := hide hrow; clear hrow
    go_wp2_with fail
    refine (unhide HR).mono ?_
    rintro e2 w2 ⟨rfl, hb2⟩
    have H2 := hide (And.intro ((unhide H1).1.below hb2 (unhide H1).1.lt) ((unhide H1).2.trans (hb2.mono (unhide H1).2.size))); clear hb2 HR H1
    go_upto_if 24 with fail
    have hX2 : StX w (w2.alloc (.cells #[.string F.wd, .int .i64 (F.a : Int), .int .i64 (F.b : Int), .int .i64 (F.more : Int), .bool F.opts] 104)) w2.heap.size F := ⟨(unhide H2).1.alloc _, Blk.new _ _ _, (unhide H2).2.alloc (unhide H2).2.size _, (unhide H2).1.lt⟩
    have HX := hide hX2; clear hX2 H2
    generalize (w2.alloc (.cells #[.string F.wd, .int .i64 (F.a : Int), .int .i64 (F.b : Int), .int .i64 (F.more : Int), .bool F.opts] 104)) = w3 at *
    generalize w2.heap.size = gr at *
    obtain ⟨h, hh⟩ : ∃ h, ws.length = h + 1 := ⟨ws.length - 1, by omega⟩
    have hsub : (ws.length : Int) - 1 = (h : Int) := by omega
    have hhm : Hid (ws.length - 1 = h) := Lib.hid (by omega)
    have HH := Lib.hid hh; clear hh
    have hFt := shape_tab ⟨k, by omega⟩
    simp only at hFt
    rw [hF.out] at hFt
    obtain ⟨hT1, hT2, hT3, hT4, hT5, hT6⟩ := hFt
    obtain ⟨wv, hwv⟩ : ∃ wv : World, wv = w3 := ⟨_, rfl⟩
    obtain ⟨n0, hn0⟩ : ∃ n0, Hid ((if F.opts = true then 6 else F.a) = n0) := ⟨_, Lib.hid rfl⟩
    have hn06 : n0 ≤ 6 := by rw [← hn0.out]; split <;> omega
    go_cut [6] (fun s6 wx => s6 = .int .i64 (n0 : Int) ∧ wx = wv)
    case first =>
      cases hop : F.opts with
      | false =>
        have e := hn0.out
        rw [hop, if_neg (by simp)] at e
        go_wp2_with fail
        go_meet
        case rel => exact ⟨by rw [e], hwv.symm⟩
      | true =>
        have e := hn0.out
        rw [hop, if_pos rfl] at e
        go_wp2_with fail
        go_meet
        case rel => exact ⟨by rw [← e]; rfl, hwv.symm⟩
    case rest =>
      obtain ⟨rfl, hw3⟩ := hcut
      rw [hwv] at hw3
      subst hw3
      clear hwv
      obtain ⟨wv, hwv⟩ : ∃ wv : World, wv = wc := ⟨_, rfl⟩
      have r2 := (unhide HX).r.cell 2; have r3 := (unhide HX).r.cell 3; have r4 := (unhide HX).r.cell 4
      simp only [List.getElem?_toArray, List.getElem?_cons_zero, List.getElem?_cons_succ] at r2 r3 r4
      go_upto_region 9 with fail
      go_cut [46] (fun s46 wx => s46 = .bool (!fits F h) ∧ wx = wv)
      case first =>
        by_cases h1 : h < n0 + F.b
        · have q3 : (h : Int) < (n0 : Int) + (F.b : Int) := by omega
          go_wp2_with fail
          go_meet
          case rel => exact ⟨by rw [fits_n F h n0 hn0.out, decide_eq_false (by omega : ¬ n0 + F.b ≤ h)]; rfl, hwv.symm⟩
        · have q3 : ¬ (h : Int) < (n0 : Int) + (F.b : Int) := by omega
          by_cases h2 : n0 + F.b < h
          · have q4 : (n0 : Int) + (F.b : Int) < (h : Int) := by omega
            by_cases h3 : F.more = 0
            · have q5 : ((F.more : Int) == 0) = true := by rw [beq_iff_eq]; omega
              go_wp2_with fail
              go_meet
              case rel => exact ⟨by rw [fits_n F h n0 hn0.out, decide_eq_false (by omega : ¬ h ≤ n0 + F.b), decide_eq_false (by omega : ¬ F.more ≠ 0)]; simp, hwv.symm⟩
            · have q5 : ((F.more : Int) == 0) = false := by rw [beq_eq_false_iff_ne]; omega
              go_wp2_with fail
              go_meet
              case rel => exact ⟨by rw [fits_n F h n0 hn0.out, decide_eq_true (by omega : n0 + F.b ≤ h), decide_eq_true (by omega : F.more ≠ 0)]; simp, hwv.symm⟩
          · have q4 : ¬ (n0 : Int) + (F.b : Int) < (h : Int) := by omega
            go_wp2_with fail
            go_meet
            case rel => exact ⟨by rw [fits_n F h n0 hn0.out, decide_eq_true (by omega : n0 + F.b ≤ h), decide_eq_true (by omega : h ≤ n0 + F.b)]; simp, hwv.symm⟩
      case rest =>
        obtain ⟨rfl, hw3⟩ := hcut
        rw [hwv] at hw3
        subst hw3
        clear hwv
        cases hfit : fits F h with
        | false =>
          have hr := Lib.hid (stepO_1 (ws := ws) hk.out hkz (by rw [hF.out, hhm.out]; exact hfit))
          have f0 := (unhide HX).z.frozen 0; have f1 := (unhide HX).z.frozen 1; have f2 := (unhide HX).z.frozen 2; have f3 := (unhide HX).z.frozen 3; have f4 := (unhide HX).z.frozen 4; have f5 := (unhide HX).z.frozen 5; have f6 := (unhide HX).z.frozen 6; have f7 := (unhide HX).z.frozen 7; have f8 := (unhide HX).z.frozen 8
          have k0 := (unhide HX).z.cell 0; have k1 := (unhide HX).z.cell 1; have k2 := (unhide HX).z.cell 2; have k3 := (unhide HX).z.cell 3; have k4 := (unhide HX).z.cell 4; have k5 := (unhide HX).z.cell 5; have k6 := (unhide HX).z.cell 6; have k7 := (unhide HX).z.cell 7; have k8 := (unhide HX).z.cell 8
          simp only [List.getElem?_toArray, List.getElem?_cons_zero, List.getElem?_cons_succ] at k0 k1 k2 k3 k4 k5 k6 k7 k8
          go_wp2_with fail
          refine bodyPost_ret (results_step rfl _ _ w.heap.size _ rfl rfl (blk9_store (unhide HX).z _ _ _ _ _ _ _ _ _)) rfl ?_
          exact ⟨by rw [hr.out]; rfl, below9 (unhide HX).b (Nat.le_refl _) _ _ _ _ _ _ _ _ _⟩
        | true =>
          obtain ⟨wv, hwv⟩ : ∃ wv : World, wv = wc := ⟨_, rfl⟩
          obtain ⟨nn, hnn⟩ : ∃ nn, Hid (numN F h = nn) := ⟨_, Lib.hid rfl⟩
          have hfit2 := hfit
          rw [fits_n F h n0 hn0.out, Bool.and_eq_true, decide_eq_true_eq] at hfit2
          have hnh : nn ≤ h := by
            rw [← hnn.out]; unfold numN
            split
            · omega
            · rw [hn0.out]; omega
          go_upto_if 50 with fail
          go_cut [6] (fun s6 wx => s6 = .int .i64 (nn : Int) ∧ wx = wv)
          case first =>
            by_cases hm : F.more = 1
            · have hm1 : ((F.more : Int) == 1) = true := by rw [beq_iff_eq]; omega
              have hm2 : (F.more : Int) = 1 := by omega
              have e := hnn.out
              unfold numN at e
              rw [if_pos hm] at e
              have e2 : (h : Int) - (F.b : Int) = (nn : Int) := by omega
              go_wp2_with fail
              go_meet
              case rel => exact ⟨by first | rfl | rw [show h = nn from by have := hT2 hm; omega], hwv.symm⟩
            · have hm1 : ((F.more : Int) == 1) = false := by rw [beq_eq_false_iff_ne]; omega
              have hm2 : ¬ (F.more : Int) = 1 := by omega
              have e := hnn.out
              unfold numN at e
              rw [if_neg hm, hn0.out] at e
              go_wp2_with fail
              go_meet
              case rel => exact ⟨by rw [e], hwv.symm⟩
          case rest =>
            obtain ⟨rfl, hw3⟩ := hcut
            rw [hwv] at hw3
            subst hw3
            clear hwv
            have HT1 := Lib.hid hT1
            clear hT1 hT2 hT3 hT4 hT5 hT6 hfit2
            have u1 : (1 : Int) ≤ 1 + (nn : Int) := by omega
            have u2 : 1 + (nn : Int) ≤ (cap : Int) := by have := HH.out; omega
            have u3 : nn ≤ 1099511627776 := by have := HH.out; omega
            obtain ⟨ps, hps⟩ : ∃ ps, Hid ((ws.drop 1).take nn = ps) := ⟨_, Lib.hid rfl⟩
            have hpz : Hid (∀ x ∈ ps, x.size ≤ 1099511627776) := Lib.hid (fun x hx => (unhide HS).2 x (by rw [← hps.out] at hx; exact List.mem_of_mem_drop (List.mem_of_mem_take hx)))
            have hpl : Hid (ps.length ≤ 1099511627777) := Lib.hid (by rw [← hps.out, List.length_take]; omega)
            have hSW := (unhide HS).1.below (unhide HX).b
            have HSW := hide hSW; clear hSW
            go_upto_region 13 with fail
            go_cut [8, 9] (fun s8 s9 wx => StX w wx gr F ∧ ((∃ ns, Hid (numsO ps = some ns) ∧ s9 = .int .i64 0 ∧ OwnI wx (w.heap.size + 1) s8 ns) ∨ (Hid (numsO ps = none) ∧ s9 = .int .i64 42 ∧ s8 = .slice none 0 0)))
            case first =>
              go_wp2_with fail
              all_goals try subst ‹cap = 1›
              all_goals
                refine (rnums_any _ ps wc (by rw [← hps.out]; first | exact sub_strs (unhide HSW) (by have := HH.out; omega) | exact zero_strs (by omega)) hpz.out hpl.out).mono ?_
                rintro e3 w3 ⟨hN, hb3⟩
                have hX3 := (unhide HX).call hb3
                have hbz := (unhide HX).z.lt
                rcases hN with ⟨ns, v3, hE, rfl, hO3⟩ | ⟨hE, rfl⟩
                · obtain ⟨A3, c3, rfl, -⟩ := id hO3.ints
                  have H3 := hide (And.intro hX3 (row_mono hO3 hbz)); clear hX3 hO3 hb3
                  go_wp2_with fail
                  go_meet
                  case rel => exact ⟨(unhide H3).1, .inl ⟨ns, Lib.hid hE, rfl, (unhide H3).2⟩⟩
                · have H3 := hide hX3; clear hX3 hb3
                  go_wp2_with fail
                  go_meet
                  case rel => exact ⟨unhide H3, .inr ⟨Lib.hid hE, rfl, rfl⟩⟩
            case rest =>
              obtain ⟨hX3, hres⟩ := hcut
              have HX3 := hide hX3; clear hX3 HX HSW r2 r3 r4
              have r4 := (unhide HX3).r.cell 4
              simp only [List.getElem?_toArray, List.getElem?_cons_zero, List.getElem?_cons_succ] at r4
              rcases hres with ⟨ns, hE, rfl, hO⟩ | ⟨hE, rfl, rfl⟩
              · have hr := Lib.hid (stepO_3 (ws := ws) hk.out hkz (by rw [hF.out, hhm.out]; exact hfit) (by rw [hF.out, hhm.out, hnn.out, hps.out]; exact hE.out))
                have hnl : ns.length = nn := by
                  rw [numsO_len hE.out, ← hps.out, List.length_take, List.length_drop]
                  have := HH.out; omega
                have HNL := Lib.hid hnl; clear hnl
                obtain ⟨An, cn, rfl, hAn⟩ := id hO.ints
                have HO := hide (And.intro hO hAn); clear hO hAn
                rw [hF.out, hhm.out, hnn.out] at hr
                have r4w := (World.cell?_alloc_lt wc (.cells #[.int .i64 (k : Int), .slice none 0 0, .slice none 0 0, .int .i64 0, .int .i64 0, .int .i64 0, .int .i64 0, .int .i64 0, .int .i64 0] 52) ⟨gr, 4, none⟩ (unhide HX3).r.lt).trans r4
                go_upto_if 70 with fail
                have hS0 := Blk.new wc 52 #[.int .i64 (k : Int), .slice none 0 0, .slice none 0 0, .int .i64 0, .int .i64 0, .int .i64 0, .int .i64 0, .int .i64 0, .int .i64 0]
                have hbA : Below wc.heap.size wc (wc.alloc (.cells #[.int .i64 (k : Int), .slice none 0 0, .slice none 0 0, .int .i64 0, .int .i64 0, .int .i64 0, .int .i64 0, .int .i64 0, .int .i64 0] 52)) := (Below.refl _ _).alloc (Nat.le_refl _) _
                have hlt0 := (unhide HX3).z.lt
                have HA := hide (And.intro hS0 (And.intro ((unhide HX3).call hbA) (And.intro (row_low (unhide HO).1 (fun q hq => (World.ownsRow.lt (unhide HO).1 q hq).2) hbA : OwnI _ _ _ _) (And.intro (fun q hq => (World.ownsRow.lt (unhide HO).1 q hq).2 : ∀ q, (Value.slice An ns.length cn).ownBlock = some q → q < wc.heap.size) hlt0))))
                clear hS0 hbA hlt0 r4 r4w HX3 HO
                generalize (wc.alloc (.cells #[.int .i64 (k : Int), .slice none 0 0, .slice none 0 0, .int .i64 0, .int .i64 0, .int .i64 0, .int .i64 0, .int .i64 0, .int .i64 0] 52)) = wa at *
                generalize wc.heap.size = gs at *
                go_cut [] (fun wx => ∃ vn a b c d e f, Hid ((if F.opts = true then ns else zero6) = [a, b, c, d, e, f]) ∧ RsX w wx gs k vn (.slice none 0 0) a b c d e f (if F.opts = true then [] else ns) [])
                case first =>
                  cases hop : F.opts with
                  | false =>
                    have k1 := (unhide HA).1.cell 1; have f1 := (unhide HA).1.frozen 1
                    simp only [List.getElem?_toArray, List.getElem?_cons_zero, List.getElem?_cons_succ] at k1
                    go_wp2_with fail
                    go_meet
                    case rel =>
                      obtain ⟨hS, hX, hN, hlo, hl⟩ := unhide HA
                      have hN2 : OwnI wa (w.heap.size + 1) (.slice An ns.length cn) (if F.opts = true then [] else ns) := by rw [if_neg (by rw [hop]; simp)]; exact hN
                      exact ⟨_, 0, 0, 0, 0, 0, 0, Lib.hid (by rw [if_neg (by rw [hop]; simp)]; rfl), ⟨hS.set_ 1 _, hX.z.far (p := ⟨gs, 1, none⟩) (by show w.heap.size ≠ gs; omega) _, row_low hN2 hlo ((Below.refl gs _).setCell (p := ⟨gs, 1, none⟩) (Nat.le_refl _) _), hlo, World.ownsRow_nil _ _ _ _, hX.b.setCell (p := ⟨gs, 1, none⟩) (by show w.heap.size ≤ gs; omega) _, hl⟩⟩
                  | true =>
                    have h6 : ns.length = 6 := by
                      rw [HNL.out, ← hnn.out]; unfold numN
                      rw [if_neg (by have := (HT1.out hop).2.2; omega), if_pos hop]
                    obtain ⟨a, b, c, d, e, f, rfl⟩ : ∃ a b c d e f : Int, ns = [a, b, c, d, e, f] := by
                      match ns, h6 with
                      | [a, b, c, d, e, f], _ => exact ⟨a, b, c, d, e, f, rfl⟩
                    clear h6 HNL
                    obtain ⟨gn, rfl, e0, e1, e2, e3, e4, e5⟩ := ownI6 (unhide HA).2.2.1
                    have k3 := (unhide HA).1.cell 3; have k4 := (unhide HA).1.cell 4; have k5 := (unhide HA).1.cell 5; have k6 := (unhide HA).1.cell 6; have k7 := (unhide HA).1.cell 7; have k8 := (unhide HA).1.cell 8
                    have f3 := (unhide HA).1.frozen 3; have f4 := (unhide HA).1.frozen 4; have f5 := (unhide HA).1.frozen 5; have f6 := (unhide HA).1.frozen 6; have f7 := (unhide HA).1.frozen 7; have f8 := (unhide HA).1.frozen 8
                    simp only [List.getElem?_toArray, List.getElem?_cons_zero, List.getElem?_cons_succ] at k3 k4 k5 k6 k7 k8
                    go_wp2_with fail
                    go_still_tail 20, (by kernel_rfl)
                    repeat still_step
                    try refine wpStill_nil ?_
                    change wpList _ _ _ _ _ wa.drew
                    have hbD : Below wa.heap.size wa wa.drew := (Below.refl _ wa).drew
                    have HD := hide (And.intro (unhide HA).1.drew (And.intro ((unhide HA).2.1.call hbD) (unhide HA).2.2.2.2))
                    clear hbD k3 k4 k5 k6 k7 k8 f3 f4 f5 f6 f7 f8 e0 e1 e2 e3 e4 e5 HA
                    generalize wa.drew = wd at *
                    have k3 := (unhide HD).1.cell 3; have k4 := (unhide HD).1.cell 4; have k5 := (unhide HD).1.cell 5; have k6 := (unhide HD).1.cell 6; have k7 := (unhide HD).1.cell 7; have k8 := (unhide HD).1.cell 8
                    have f3 := (unhide HD).1.frozen 3; have f4 := (unhide HD).1.frozen 4; have f5 := (unhide HD).1.frozen 5; have f6 := (unhide HD).1.frozen 6; have f7 := (unhide HD).1.frozen 7; have f8 := (unhide HD).1.frozen 8
                    simp only [List.getElem?_toArray, List.getElem?_cons_zero, List.getElem?_cons_succ] at k3 k4 k5 k6 k7 k8
                    go_wp2_with fail
                    go_meet
                    case rel => exact ⟨.slice none 0 0, a, b, c, d, e, f, Lib.hid (by rw [if_pos hop]), rs_opts (unhide HD).1 (unhide HD).2.1 (unhide HD).2.2 (by rw [if_pos hop])⟩
                case rest =>
                  obtain ⟨vn, a, b, c, d, e, f, hO6, hR⟩ := hcut
                  have hres : Hid (stepO ws = .inr ⟨(k : Int), [a, b, c, d, e, f], if F.opts = true then [] else ns, ws.drop (1 + nn)⟩) := Lib.hid (by rw [hr.out, hO6.out])
                  obtain ⟨N, hN⟩ : ∃ N, Hid ((if F.opts = true then [] else ns) = N) := ⟨_, Lib.hid rfl⟩
                  rw [hN.out] at hR hres
                  have hSW := (unhide HS).1.below (unhide HA).2.1.b
                  clear hr hO6 hN HA HNL
                  have HR := hide hR; clear hR
                  have hgw' : gw < w.heap.size := hgw
                  go_wp2_with fail
                  go_loopw [11] (fun i W => ∃ (j : Nat) (vs : Value) (acc : List ByteArray), i = .int .i64 (j : Int) ∧ 1 + nn ≤ j ∧ j ≤ ws.length ∧ Hid (acc = (ws.drop (1 + nn)).take (j - (1 + nn))) ∧ RsX w W gs (k : Int) vn vs a b c d e f N acc) (fun i _ => ws.length - (RowKit.intOf i).toNat)
                  case atStart => exact ⟨1 + nn, .slice none 0 0, [], by go_num, Nat.le_refl _, by have := HH.out; omega, Lib.hid (by simp), unhide HR⟩
                  case round =>
                    obtain ⟨j, vs, acc, rfl, hj1, hj2, hacc, hX⟩ := hrel
                    clear HR
                    obtain ⟨Av, cv, rfl, -⟩ := id (ownT_strs hX.t)
                    have t0j : (0 : Int) ≤ (j : Int) := by omega
                    have hal : Hid (acc.length ≤ 1099511627776) := Lib.hid (by rw [hacc.out, List.length_take, List.length_drop]; omega)
                    rcases Nat.lt_or_ge j ws.length with hlt | hge
                    · have t2 : (j : Int) < (ws.length : Int) := by omega
                      obtain ⟨ad, had, hcw⟩ := strs_at ((unhide HS).1.below hX.b) j hlt
                      injection had with had
                      subst had
                      have hadd : (⟨gw, 0, none⟩ : Addr).add j = ⟨gw, j, none⟩ := by unfold Addr.add; split <;> simp_all
                      rw [hadd] at hcw
                      clear hadd
                      have hnx : Hid ((ws.drop (1 + nn)).take (j + 1 - (1 + nn)) = acc ++ [ws[j]]) := Lib.hid (by
                        rw [hacc.out, show j + 1 - (1 + nn) = (j - (1 + nn)) + 1 by omega, List.take_succ_eq_append_getElem (by rw [List.length_drop]; omega), List.getElem_drop]
                        congr 2
                        simp only [show 1 + nn + (j - (1 + nn)) = j by omega])
                      generalize ws[j] = x at *
                      have c2 := hX.s.cell 2; have f2 := hX.s.frozen 2
                      simp only [List.getElem?_toArray, List.getElem?_cons_zero, List.getElem?_cons_succ] at c2
                      have hbase : gs + 1 ≤ ((wr.alloc (.cells #[.string x] 9)).drew).heap.size := by have := hX.s.lt; show gs + 1 ≤ (wr.alloc _).heap.size; simp; omega
                      have c2w := (World.cell?_alloc_lt wr (.cells #[.string x] 9) ⟨gs, 2, none⟩ hX.s.lt).trans c2
                      have hlw : gw ≠ wr.heap.size := fun e => by have := World.block_lt_of_cell? wr _ hcw; simp at this; omega
                      have hls : ¬ gs = wr.heap.size := fun e => by have := hX.s.lt; omega
                      have HX := hide (And.intro hX hbase); clear hX hbase hacc hSW
                      go_wp2_with fail
                      go_region_law (first | (refine step_appT _ rfl (.tmp 102) (.tmp 107) rfl ((unhide HX).1.t.alloc _).drew rfl (one_strs wr x) rfl (by have := hal.out; simp; omega) (unhide HX).2 ?_; intro v1 w3 hO1 hg1 hat1; obtain ⟨A1, c1, rfl, -⟩ := id (ownT_strs hO1); simp only [List.length_append, List.length_cons, List.length_nil, Nat.zero_add] at hO1; have hS3 : Blk w3 gs 52 _ := (((unhide HX).1.s.alloc (.cells #[.string x] 9)).drew).grown hg1 (fun e => by have := (World.ownsRow.lt (unhide HX).1.t gs e.symm).1; omega); have c3 := hS3.cell 2; have f3 := hS3.frozen 2; simp only [List.getElem?_toArray, List.getElem?_cons_zero, List.getElem?_cons_succ] at c3; have H1 := hide ((unhide HX).1.app hO1 (grown_undrew hg1)); clear hO1 hg1 hat1 hS3))
                      all_goals
                        go_wp2_with fail
                        refine ⟨⟨j + 1, _, acc ++ [x], by go_num, by omega, by omega, Lib.hid hnx.out.symm, unhide H1⟩, by simp [RowKit.intOf]; omega⟩
                    · have t2 : ¬ (j : Int) < (ws.length : Int) := by omega
                      have hfin : Hid (acc = ws.drop (1 + nn)) := Lib.hid (by rw [hacc.out, List.take_of_length_le (by rw [List.length_drop]; omega)])
                      obtain ⟨An2, cn2, rfl, -⟩ := id (OwnI.ints hX.n)
                      have m0 := hX.s.cell 0; have m1 := hX.s.cell 1; have m2 := hX.s.cell 2; have m3 := hX.s.cell 3; have m4 := hX.s.cell 4; have m5 := hX.s.cell 5; have m6 := hX.s.cell 6; have m7 := hX.s.cell 7; have m8 := hX.s.cell 8
                      have f0 := hX.z.frozen 0; have f1 := hX.z.frozen 1; have f2 := hX.z.frozen 2; have f3 := hX.z.frozen 3; have f4 := hX.z.frozen 4; have f5 := hX.z.frozen 5; have f6 := hX.z.frozen 6; have f7 := hX.z.frozen 7; have f8 := hX.z.frozen 8
                      have k0 := hX.z.cell 0; have k1 := hX.z.cell 1; have k2 := hX.z.cell 2; have k3 := hX.z.cell 3; have k4 := hX.z.cell 4; have k5 := hX.z.cell 5; have k6 := hX.z.cell 6; have k7 := hX.z.cell 7; have k8 := hX.z.cell 8
                      simp only [List.getElem?_toArray, List.getElem?_cons_zero, List.getElem?_cons_succ] at k0 k1 k2 k3 k4 k5 k6 k7 k8 m0 m1 m2 m3 m4 m5 m6 m7 m8
                      have HX := hide hX; clear hX hacc hSW
                      go_wp2_with fail
                      refine bodyPost_ret (results_step rfl _ _ w.heap.size _ rfl rfl (blk9_store (unhide HX).z _ _ _ _ _ _ _ _ _)) rfl ?_
                      refine ⟨?_, below9 (unhide HX).b (Nat.le_refl _) _ _ _ _ _ _ _ _ _⟩
                      rw [hres.out, ← hfin.out]
                      exact ⟨⟨(k : Int), _, _, a, b, c, d, e, f, N, acc⟩, rfl, rfl, row_mono (far9 (unhide HX).n (Nat.lt_succ_self _) _ _ _ _ _ _ _ _ _) (Nat.le_succ _), row_mono (far9 (unhide HX).t (by have := (unhide HX).lt; omega) _ _ _ _ _ _ _ _ _) (by have := (unhide HX).lt; omega)⟩
              · have hr := Lib.hid (stepO_2 (ws := ws) hk.out hkz (by rw [hF.out, hhm.out]; exact hfit) (by rw [hF.out, hhm.out, hnn.out, hps.out]; exact hE.out))
                have f0 := (unhide HX3).z.frozen 0; have f1 := (unhide HX3).z.frozen 1; have f2 := (unhide HX3).z.frozen 2; have f3 := (unhide HX3).z.frozen 3; have f4 := (unhide HX3).z.frozen 4; have f5 := (unhide HX3).z.frozen 5; have f6 := (unhide HX3).z.frozen 6; have f7 := (unhide HX3).z.frozen 7; have f8 := (unhide HX3).z.frozen 8
                have k0 := (unhide HX3).z.cell 0; have k1 := (unhide HX3).z.cell 1; have k2 := (unhide HX3).z.cell 2; have k3 := (unhide HX3).z.cell 3; have k4 := (unhide HX3).z.cell 4; have k5 := (unhide HX3).z.cell 5; have k6 := (unhide HX3).z.cell 6; have k7 := (unhide HX3).z.cell 7; have k8 := (unhide HX3).z.cell 8
                simp only [List.getElem?_toArray, List.getElem?_cons_zero, List.getElem?_cons_succ] at k0 k1 k2 k3 k4 k5 k6 k7 k8
                go_wp2_with fail
                refine bodyPost_ret (results_step rfl _ _ w.heap.size _ rfl rfl (blk9_store (unhide HX3).z _ _ _ _ _ _ _ _ _)) rfl ?_
                exact ⟨by rw [hr.out]; rfl, below9 (unhide HX3).b (Nat.le_refl _) _ _ _ _ _ _ _ _ _⟩
end Go.Proofs.Ytaomecinemmdgaa

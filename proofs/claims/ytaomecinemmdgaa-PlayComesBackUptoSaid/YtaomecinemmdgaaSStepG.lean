/-
  CONTRACT of the closure of play.step.
-/
import Derived.Test.YtaomecinemmdgaaRows
import Derived.Test.YtaomecinemmdgaaGBase
import Derived.Test.YtaomecinemmdgaaGLns
import Derived.Test.YtaomecinemmdgaaSTwinI
import Derived.Test.YtaomecinemmdgaaSStepP
import Derived.Test.YtaomecinemmdgaaSRStepA
import Derived.Test.YtaomecinemmdgaaSStepF
set_option linter.unusedVariables false
set_option linter.unusedSimpArgs false
namespace Go.Proofs.Ytaomecinemmdgaa
open Go.RowKit Go.Lib
theorem stepF_enters : Enters Try.prog 71 := enters_of Try.func71 (by kernel_rfl) rfl
/-- What stands while a step's words are handed on. -/
structure SfI (w W : World) (gs g6 : Nat) (k : Int) (vn vs v6 : Value) (N : List Int) (T : List ByteArray) (O : List Int) : Prop where
  s : Blk W gs 52 #[.int .i64 k, vn, vs, .int .i64 0, .int .i64 0, .int .i64 0, .int .i64 0, .int .i64 0, .int .i64 0]
  x : Blk W g6 27 #[v6]
  z : Blk W w.heap.size 52 #[.int .i64 0, .slice none 0 0, .slice none 0 0, .int .i64 0, .int .i64 0, .int .i64 0, .int .i64 0, .int .i64 0, .int .i64 0]
  n : OwnI W (g6 + 1) vn N
  o : OwnI W (g6 + 1) v6 O
  t : OwnT W (g6 + 1) vs T
  b : Below w.heap.size w W
  l1 : w.heap.size < gs
  l2 : gs < g6
theorem own_nil {W : World} {base base' : Nat} {L : List Int} (h : OwnI W base (.slice none 0 0) L) (W' : World) : OwnI W' base' (.slice none 0 0) L := by
  rcases h.2 with ⟨-, hn⟩ | ⟨g, cap, cur, hv, -⟩
  · obtain rfl := List.eq_nil_of_length_eq_zero hn
    exact World.ownsRow_nil _ _ _ _
  · cases hv
theorem SfI.call {w W W' : World} {gs g6 : Nat} {k : Int} {vn vs v6 : Value} {N O : List Int} {T : List ByteArray} (h : SfI w W gs g6 k vn vs v6 N T O) (hb : Below W.heap.size W W') : SfI w W' gs g6 k vn vs v6 N T O :=
  ⟨h.s.below hb h.s.lt, h.x.below hb h.x.lt, h.z.below hb h.z.lt, ownI_below h.n hb, ownI_below h.o hb, row_low h.t (fun q hq => (World.ownsRow.lt h.t q hq).2) hb, h.b.trans (hb.mono h.b.size), h.l1, h.l2⟩
theorem SfI.appN {w W W' : World} {gs g6 : Nat} {k : Int} {vn vn' vs : Value} {N N' O : List Int} {T : List ByteArray} {ob : Obj} (h : SfI w W gs g6 k vn vs (.slice none 0 0) N T O) (hO : OwnI W' (g6 + 1) vn' N') (hg : (W.alloc ob).grownBy W' vn.ownBlock) :
    SfI w (W'.setCell ⟨gs, 1, none⟩ vn') gs g6 k vn' vs (.slice none 0 0) N' T O :=
  have h1 := h.l1
  have h2 := h.l2
  have hz : (W.alloc ob).heap.size = W.heap.size + 1 := by simp
  have far : ∀ g, g ≤ g6 → some g ≠ vn.ownBlock := fun g hle e => by have := (World.ownsRow.lt h.n g e.symm).1; omega
  have ht : OwnT W' (g6 + 1) vs T := World.ownsRow.kept (World.ownsRow.alloc h.t ob) hg (row_ne (World.ownsRow.alloc h.t ob) (World.ownsRow.alloc h.n ob) (by decide))
  ⟨((h.s.alloc ob).grown hg (far gs (by omega))).set_ 1 vn', ((h.x.alloc ob).grown hg (far g6 (Nat.le_refl _))).far (p := ⟨gs, 1, none⟩) (by show g6 ≠ gs; omega) _, ((h.z.alloc ob).grown hg (far _ (by omega))).far (p := ⟨gs, 1, none⟩) (by show w.heap.size ≠ gs; omega) _,
   row_far hO (p := ⟨gs, 1, none⟩) (by show gs < g6 + 1; omega), own_nil h.o _, row_far ht (p := ⟨gs, 1, none⟩) (by show gs < g6 + 1; omega),
   ((h.b.alloc h.b.size ob).grown hg (by have := h.b.size; omega) (fun q hq => by have := (World.ownsRow.lt h.n q hq).1; omega)).setCell (p := ⟨gs, 1, none⟩) (by show w.heap.size ≤ gs; omega) _, h1, h2⟩
theorem SfI.appO {w W W' : World} {gs g6 : Nat} {k : Int} {v6 v6' vs : Value} {N O O' : List Int} {T : List ByteArray} {ob : Obj} (h : SfI w W gs g6 k (.slice none 0 0) vs v6 N T O) (hO : OwnI W' (g6 + 1) v6' O') (hg : (W.alloc ob).grownBy W' v6.ownBlock) :
    SfI w (W'.setCell ⟨g6, 0, none⟩ v6') gs g6 k (.slice none 0 0) vs v6' N T O' :=
  have h1 := h.l1
  have h2 := h.l2
  have hz : (W.alloc ob).heap.size = W.heap.size + 1 := by simp
  have far : ∀ g, g ≤ g6 → some g ≠ v6.ownBlock := fun g hle e => by have := (World.ownsRow.lt h.o g e.symm).1; omega
  have ht : OwnT W' (g6 + 1) vs T := World.ownsRow.kept (World.ownsRow.alloc h.t ob) hg (row_ne (World.ownsRow.alloc h.t ob) (World.ownsRow.alloc h.o ob) (by decide))
  ⟨((h.s.alloc ob).grown hg (far gs (by omega))).far (p := ⟨g6, 0, none⟩) (by show gs ≠ g6; omega) _, ((h.x.alloc ob).grown hg (far g6 (Nat.le_refl _))).set_ 0 v6', ((h.z.alloc ob).grown hg (far _ (by omega))).far (p := ⟨g6, 0, none⟩) (by show w.heap.size ≠ g6; omega) _,
   own_nil h.n _, row_far hO (p := ⟨g6, 0, none⟩) (Nat.lt_succ_self _), row_far ht (p := ⟨g6, 0, none⟩) (Nat.lt_succ_self _),
   ((h.b.alloc h.b.size ob).grown hg (by have := h.b.size; omega) (fun q hq => by have := (World.ownsRow.lt h.o q hq).1; omega)).setCell (p := ⟨g6, 0, none⟩) (by show w.heap.size ≤ g6; omega) _, h1, h2⟩
theorem SfI.appT {w W W' : World} {gs g6 : Nat} {k : Int} {vn v6 vs vs' : Value} {N O : List Int} {T T' : List ByteArray} {ob : Obj} (h : SfI w W gs g6 k vn vs v6 N T O) (hO : OwnT W' (g6 + 1) vs' T') (hg : (W.alloc ob).grownBy W' vs.ownBlock) :
    SfI w (W'.setCell ⟨gs, 2, none⟩ vs') gs g6 k vn vs' v6 N T' O :=
  have h1 := h.l1
  have h2 := h.l2
  have hz : (W.alloc ob).heap.size = W.heap.size + 1 := by simp
  have far : ∀ g, g ≤ g6 → some g ≠ vs.ownBlock := fun g hle e => by have := (World.ownsRow.lt h.t g e.symm).1; omega
  have hn : OwnI W' (g6 + 1) vn N := World.ownsRow.kept (World.ownsRow.alloc h.n ob) hg (row_ne (World.ownsRow.alloc h.n ob) (World.ownsRow.alloc h.t ob) (by decide))
  have ho : OwnI W' (g6 + 1) v6 O := World.ownsRow.kept (World.ownsRow.alloc h.o ob) hg (row_ne (World.ownsRow.alloc h.o ob) (World.ownsRow.alloc h.t ob) (by decide))
  ⟨((h.s.alloc ob).grown hg (far gs (by omega))).set_ 2 vs', ((h.x.alloc ob).grown hg (far g6 (Nat.le_refl _))).far (p := ⟨gs, 2, none⟩) (by show g6 ≠ gs; omega) _, ((h.z.alloc ob).grown hg (far _ (by omega))).far (p := ⟨gs, 2, none⟩) (by show w.heap.size ≠ gs; omega) _,
   row_far hn (p := ⟨gs, 2, none⟩) (by show gs < g6 + 1; omega), row_far ho (p := ⟨gs, 2, none⟩) (by show gs < g6 + 1; omega), row_far hO (p := ⟨gs, 2, none⟩) (by show gs < g6 + 1; omega),
   ((h.b.alloc h.b.size ob).grown hg (by have := h.b.size; omega) (fun q hq => by have := (World.ownsRow.lt h.t q hq).1; omega)).setCell (p := ⟨gs, 2, none⟩) (by show w.heap.size ≤ gs; omega) _, h1, h2⟩
set_option maxRecDepth 100000 in
set_option maxHeartbeats 2000000 in
theorem stepF_o (x : ByteArray) (w W : World) {gs g6 : Nat} {k : Int} {vs v6 : Value} {N O : List Int} {T : List ByteArray} (h : SfI w W gs g6 k (.slice none 0 0) vs v6 N T O) (hx : x.size ≤ 1099511627776) (hl : O.length ≤ 1099511627776) :
    Calls Try.prog 71 #[.int .i32 111, .string x, .pointer (some ⟨gs, 0, none⟩), .pointer (some ⟨g6, 0, none⟩)] W fun e W' => (undV x = none ∧ e = .returned (.int .i64 42) ∧ Below w.heap.size w W' ∧ Blk W' w.heap.size 52 #[.int .i64 0, .slice none 0 0, .slice none 0 0, .int .i64 0, .int .i64 0, .int .i64 0, .int .i64 0, .int .i64 0, .int .i64 0]) ∨ ∃ t, undV x = some t ∧ e = .returned (.int .i64 0) ∧ ∃ v6', SfI w W' gs g6 k (.slice none 0 0) vs v6' N T (O ++ [t]) := by
  have hun := undec_any x W hx
  obtain ⟨v6A, v6c, rfl, -⟩ := id (OwnI.ints h.o)
  cases hE : undV x with
  | none =>
    rw [undA_none hE] at hun
    have HU := hide hun; have HX := hide h; clear hun h hE
    go_enter Try.func71, Try.ntmps71
    go_wp2_with fail
    refine (unhide HU).mono ?_
    rintro e1 w1 ⟨rfl, hb1⟩
    have h := (unhide HX).call hb1
    have c0 := h.x.cell 0; have f0 := h.x.frozen 0; simp only [List.getElem?_toArray, List.getElem?_cons_zero] at c0
    have H1 := hide h; clear h hb1 HX HU
    go_wp2_with (first | (at_builtin; refine wpList_appI1 w1 rfl _ _ rfl (unhide H1).o rfl rfl (by omega) (by have := (unhide H1).x.lt; omega) ?_; intro v3 w3 hO3 hg3 hat3; obtain ⟨A3, c3, rfl, -⟩ := id hO3.ints; simp only [List.length_append, List.length_cons, List.length_nil, Nat.zero_add] at hO3; have H3 := hide ((unhide H1).appO hO3 hg3); have hKB := ((unhide H1).x.alloc (.cells #[.int .i64 _] 3)).grown hg3 (fun e => by have := (World.ownsRow.lt (unhide H1).o g6 e.symm).1; have := (unhide H1).l2; omega); have kf := hKB.frozen 0; have kc := hKB.cell 0; simp only [List.getElem?_toArray, List.getElem?_cons_zero, List.getElem?_cons_succ] at kc; clear hO3 hg3 hat3 hKB))
    go_ret
    exact .inl ⟨by first | trivial | rfl, rfl, (unhide H3).b, (unhide H3).z⟩
  | some t =>
    rw [undA_some hE] at hun
    have HU := hide hun; have HX := hide h; clear hun h hE
    go_enter Try.func71, Try.ntmps71
    go_wp2_with fail
    refine (unhide HU).mono ?_
    rintro e1 w1 ⟨rfl, hb1⟩
    have h := (unhide HX).call hb1
    have c0 := h.x.cell 0; have f0 := h.x.frozen 0; simp only [List.getElem?_toArray, List.getElem?_cons_zero] at c0
    have H1 := hide h; clear h hb1 HX HU
    go_wp2_with (first | (at_builtin; refine wpList_appI1 w1 rfl _ _ rfl (unhide H1).o rfl rfl (by omega) (by have := (unhide H1).x.lt; omega) ?_; intro v3 w3 hO3 hg3 hat3; obtain ⟨A3, c3, rfl, -⟩ := id hO3.ints; simp only [List.length_append, List.length_cons, List.length_nil, Nat.zero_add] at hO3; have H3 := hide ((unhide H1).appO hO3 hg3); have hKB := ((unhide H1).x.alloc (.cells #[.int .i64 _] 3)).grown hg3 (fun e => by have := (World.ownsRow.lt (unhide H1).o g6 e.symm).1; have := (unhide H1).l2; omega); have kf := hKB.frozen 0; have kc := hKB.cell 0; simp only [List.getElem?_toArray, List.getElem?_cons_zero, List.getElem?_cons_succ] at kc; clear hO3 hg3 hat3 hKB))
    go_ret
    exact .inr ⟨t, rfl, rfl, _, unhide H3⟩
set_option maxRecDepth 100000 in
set_option maxHeartbeats 2000000 in
theorem stepF_n (x : ByteArray) (w W : World) {gs g6 : Nat} {k : Int} {vn vs : Value} {N O : List Int} {T : List ByteArray} (h : SfI w W gs g6 k vn vs (.slice none 0 0) N T O) (hx : x.size ≤ 1099511627776) (hl : N.length ≤ 1099511627776) :
    Calls Try.prog 71 #[.int .i32 110, .string x, .pointer (some ⟨gs, 0, none⟩), .pointer (some ⟨g6, 0, none⟩)] W fun e W' => (undV x = none ∧ e = .returned (.int .i64 42) ∧ Below w.heap.size w W' ∧ Blk W' w.heap.size 52 #[.int .i64 0, .slice none 0 0, .slice none 0 0, .int .i64 0, .int .i64 0, .int .i64 0, .int .i64 0, .int .i64 0, .int .i64 0]) ∨ ∃ t, undV x = some t ∧ e = .returned (.int .i64 0) ∧ ∃ vn', SfI w W' gs g6 k vn' vs (.slice none 0 0) (N ++ [t]) T O := by
  have hun := undec_any x W hx
  obtain ⟨vnA, vnc, rfl, -⟩ := id (OwnI.ints h.n)
  cases hE : undV x with
  | none =>
    rw [undA_none hE] at hun
    have HU := hide hun; have HX := hide h; clear hun h hE
    go_enter Try.func71, Try.ntmps71
    go_wp2_with fail
    refine (unhide HU).mono ?_
    rintro e1 w1 ⟨rfl, hb1⟩
    have h := (unhide HX).call hb1
    have c0 := h.s.cell 1; have f0 := h.s.frozen 1; simp only [List.getElem?_toArray, List.getElem?_cons_zero, List.getElem?_cons_succ] at c0
    have H1 := hide h; clear h hb1 HX HU
    go_wp2_with (first | (at_builtin; refine wpList_appI1 w1 rfl _ _ rfl (unhide H1).n rfl rfl (by omega) (by have := (unhide H1).x.lt; omega) ?_; intro v3 w3 hO3 hg3 hat3; obtain ⟨A3, c3, rfl, -⟩ := id hO3.ints; simp only [List.length_append, List.length_cons, List.length_nil, Nat.zero_add] at hO3; have H3 := hide ((unhide H1).appN hO3 hg3); have hKB := ((unhide H1).s.alloc (.cells #[.int .i64 _] 3)).grown hg3 (fun e => by have := (World.ownsRow.lt (unhide H1).n gs e.symm).1; have := (unhide H1).l2; omega); have kf := hKB.frozen 1; have kc := hKB.cell 1; simp only [List.getElem?_toArray, List.getElem?_cons_zero, List.getElem?_cons_succ] at kc; clear hO3 hg3 hat3 hKB))
    go_ret
    exact .inl ⟨by first | trivial | rfl, rfl, (unhide H3).b, (unhide H3).z⟩
  | some t =>
    rw [undA_some hE] at hun
    have HU := hide hun; have HX := hide h; clear hun h hE
    go_enter Try.func71, Try.ntmps71
    go_wp2_with fail
    refine (unhide HU).mono ?_
    rintro e1 w1 ⟨rfl, hb1⟩
    have h := (unhide HX).call hb1
    have c0 := h.s.cell 1; have f0 := h.s.frozen 1; simp only [List.getElem?_toArray, List.getElem?_cons_zero, List.getElem?_cons_succ] at c0
    have H1 := hide h; clear h hb1 HX HU
    go_wp2_with (first | (at_builtin; refine wpList_appI1 w1 rfl _ _ rfl (unhide H1).n rfl rfl (by omega) (by have := (unhide H1).x.lt; omega) ?_; intro v3 w3 hO3 hg3 hat3; obtain ⟨A3, c3, rfl, -⟩ := id hO3.ints; simp only [List.length_append, List.length_cons, List.length_nil, Nat.zero_add] at hO3; have H3 := hide ((unhide H1).appN hO3 hg3); have hKB := ((unhide H1).s.alloc (.cells #[.int .i64 _] 3)).grown hg3 (fun e => by have := (World.ownsRow.lt (unhide H1).n gs e.symm).1; have := (unhide H1).l2; omega); have kf := hKB.frozen 1; have kc := hKB.cell 1; simp only [List.getElem?_toArray, List.getElem?_cons_zero, List.getElem?_cons_succ] at kc; clear hO3 hg3 hat3 hKB))
    go_ret
    exact .inr ⟨t, rfl, rfl, _, unhide H3⟩
set_option maxRecDepth 100000 in
set_option maxHeartbeats 2000000 in
theorem stepF_N (x : ByteArray) (w W : World) {gs g6 : Nat} {k : Int} {vn vs : Value} {N O : List Int} {T : List ByteArray} (h : SfI w W gs g6 k vn vs (.slice none 0 0) N T O) (hx : x.size ≤ 1099511627776) (hl : N.length ≤ 1099511627776) :
    Calls Try.prog 71 #[.int .i32 78, .string x, .pointer (some ⟨gs, 0, none⟩), .pointer (some ⟨g6, 0, none⟩)] W fun e W' => (undV x = none ∧ e = .returned (.int .i64 42) ∧ Below w.heap.size w W' ∧ Blk W' w.heap.size 52 #[.int .i64 0, .slice none 0 0, .slice none 0 0, .int .i64 0, .int .i64 0, .int .i64 0, .int .i64 0, .int .i64 0, .int .i64 0]) ∨ ∃ t, undV x = some t ∧ e = .returned (.int .i64 0) ∧ ∃ vn', SfI w W' gs g6 k vn' vs (.slice none 0 0) (N ++ [t]) T O := by
  have hun := undec_any x W hx
  obtain ⟨vnA, vnc, rfl, -⟩ := id (OwnI.ints h.n)
  cases hE : undV x with
  | none =>
    rw [undA_none hE] at hun
    have HU := hide hun; have HX := hide h; clear hun h hE
    go_enter Try.func71, Try.ntmps71
    go_wp2_with fail
    refine (unhide HU).mono ?_
    rintro e1 w1 ⟨rfl, hb1⟩
    have h := (unhide HX).call hb1
    have c0 := h.s.cell 1; have f0 := h.s.frozen 1; simp only [List.getElem?_toArray, List.getElem?_cons_zero, List.getElem?_cons_succ] at c0
    have H1 := hide h; clear h hb1 HX HU
    go_wp2_with (first | (at_builtin; refine wpList_appI1 w1 rfl _ _ rfl (unhide H1).n rfl rfl (by omega) (by have := (unhide H1).x.lt; omega) ?_; intro v3 w3 hO3 hg3 hat3; obtain ⟨A3, c3, rfl, -⟩ := id hO3.ints; simp only [List.length_append, List.length_cons, List.length_nil, Nat.zero_add] at hO3; have H3 := hide ((unhide H1).appN hO3 hg3); have hKB := ((unhide H1).s.alloc (.cells #[.int .i64 _] 3)).grown hg3 (fun e => by have := (World.ownsRow.lt (unhide H1).n gs e.symm).1; have := (unhide H1).l2; omega); have kf := hKB.frozen 1; have kc := hKB.cell 1; simp only [List.getElem?_toArray, List.getElem?_cons_zero, List.getElem?_cons_succ] at kc; clear hO3 hg3 hat3 hKB))
    go_ret
    exact .inl ⟨by first | trivial | rfl, rfl, (unhide H3).b, (unhide H3).z⟩
  | some t =>
    rw [undA_some hE] at hun
    have HU := hide hun; have HX := hide h; clear hun h hE
    go_enter Try.func71, Try.ntmps71
    go_wp2_with fail
    refine (unhide HU).mono ?_
    rintro e1 w1 ⟨rfl, hb1⟩
    have h := (unhide HX).call hb1
    have c0 := h.s.cell 1; have f0 := h.s.frozen 1; simp only [List.getElem?_toArray, List.getElem?_cons_zero, List.getElem?_cons_succ] at c0
    have H1 := hide h; clear h hb1 HX HU
    go_wp2_with (first | (at_builtin; refine wpList_appI1 w1 rfl _ _ rfl (unhide H1).n rfl rfl (by omega) (by have := (unhide H1).x.lt; omega) ?_; intro v3 w3 hO3 hg3 hat3; obtain ⟨A3, c3, rfl, -⟩ := id hO3.ints; simp only [List.length_append, List.length_cons, List.length_nil, Nat.zero_add] at hO3; have H3 := hide ((unhide H1).appN hO3 hg3); have hKB := ((unhide H1).s.alloc (.cells #[.int .i64 _] 3)).grown hg3 (fun e => by have := (World.ownsRow.lt (unhide H1).n gs e.symm).1; have := (unhide H1).l2; omega); have kf := hKB.frozen 1; have kc := hKB.cell 1; simp only [List.getElem?_toArray, List.getElem?_cons_zero, List.getElem?_cons_succ] at kc; clear hO3 hg3 hat3 hKB))
    go_ret
    exact .inr ⟨t, rfl, rfl, _, unhide H3⟩
set_option maxRecDepth 100000 in
set_option maxHeartbeats 2000000 in
theorem stepF_s (x : ByteArray) (w W : World) {gs g6 : Nat} {k : Int} {vn vs v6 : Value} {N O : List Int} {T : List ByteArray} (h : SfI w W gs g6 k vn vs v6 N T O) (hl : T.length ≤ 1099511627776) :
    Calls Try.prog 71 #[.int .i32 115, .string x, .pointer (some ⟨gs, 0, none⟩), .pointer (some ⟨g6, 0, none⟩)] W fun e W' => e = .returned (.int .i64 0) ∧ ∃ vs', SfI w W' gs g6 k vn vs' v6 N (T ++ [x]) O := by
  obtain ⟨sA, sc, rfl, -⟩ := id (ownT_strs h.t)
  have c0 := h.s.cell 2; have f0 := h.s.frozen 2; simp only [List.getElem?_toArray, List.getElem?_cons_zero, List.getElem?_cons_succ] at c0
  have H1 := hide h; clear h
  go_enter Try.func71, Try.ntmps71
  go_wp2_with (first | (at_builtin; refine wpList_appT1 W rfl _ _ rfl (unhide H1).t rfl rfl (by omega) (by have := (unhide H1).x.lt; omega) ?_; intro v3 w3 hO3 hg3 hat3; obtain ⟨A3, c3, rfl, -⟩ := id (ownT_strs hO3); simp only [List.length_append, List.length_cons, List.length_nil, Nat.zero_add] at hO3; have H3 := hide ((unhide H1).appT hO3 hg3); have hKB := ((unhide H1).s.alloc (.cells #[.string x] 9)).grown hg3 (fun e => by have := (World.ownsRow.lt (unhide H1).t gs e.symm).1; have := (unhide H1).l2; omega); have kf := hKB.frozen 2; have kc := hKB.cell 2; simp only [List.getElem?_toArray, List.getElem?_cons_zero, List.getElem?_cons_succ] at kc; clear hO3 hg3 hat3 hKB))
  go_ret
  exact ⟨rfl, _, unhide H3⟩
set_option maxRecDepth 100000 in
set_option maxHeartbeats 2000000 in
theorem stepF_S (x : ByteArray) (w W : World) {gs g6 : Nat} {k : Int} {vn vs v6 : Value} {N O : List Int} {T : List ByteArray} (h : SfI w W gs g6 k vn vs v6 N T O) (hl : T.length ≤ 1099511627776) :
    Calls Try.prog 71 #[.int .i32 83, .string x, .pointer (some ⟨gs, 0, none⟩), .pointer (some ⟨g6, 0, none⟩)] W fun e W' => e = .returned (.int .i64 0) ∧ ∃ vs', SfI w W' gs g6 k vn vs' v6 N (T ++ [x]) O := by
  obtain ⟨sA, sc, rfl, -⟩ := id (ownT_strs h.t)
  have c0 := h.s.cell 2; have f0 := h.s.frozen 2; simp only [List.getElem?_toArray, List.getElem?_cons_zero, List.getElem?_cons_succ] at c0
  have H1 := hide h; clear h
  go_enter Try.func71, Try.ntmps71
  go_wp2_with (first | (at_builtin; refine wpList_appT1 W rfl _ _ rfl (unhide H1).t rfl rfl (by omega) (by have := (unhide H1).x.lt; omega) ?_; intro v3 w3 hO3 hg3 hat3; obtain ⟨A3, c3, rfl, -⟩ := id (ownT_strs hO3); simp only [List.length_append, List.length_cons, List.length_nil, Nat.zero_add] at hO3; have H3 := hide ((unhide H1).appT hO3 hg3); have hKB := ((unhide H1).s.alloc (.cells #[.string x] 9)).grown hg3 (fun e => by have := (World.ownsRow.lt (unhide H1).t gs e.symm).1; have := (unhide H1).l2; omega); have kf := hKB.frozen 2; have kc := hKB.cell 2; simp only [List.getElem?_toArray, List.getElem?_cons_zero, List.getElem?_cons_succ] at kc; clear hO3 hg3 hat3 hKB))
  go_ret
  exact ⟨rfl, _, unhide H3⟩
end Go.Proofs.Ytaomecinemmdgaa

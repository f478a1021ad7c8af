/-
  Several texts in one: CONTRACT of note.Parse. | CONTRACTS of the document's answer for note: part, Read. | WORDS on rows of keys that the call itself owns.
-/
import Derived.Test.YtfhaoamlagnpjaaDoorRows
import Derived.Laws.ResultCell
import Derived.Laws.Rows
import Derived.StillTailTactics
import Derived.Deep.RegionHeld3
import Derived.Laws.OwnMore
import Derived.Test.YtfhaoamlagnpjaaDoorGNoteAdd1
import Derived.Test.YtfhaoamlagnpjaaDoorGNoteAdd7
import Derived.Test.YtfhaoamlagnpjaaDoorGNoteAdd8
import Derived.Test.YtfhaoamlagnpjaaDoorGNoteAdd14
import Derived.Test.YtfhaoamlagnpjaaDoorGNoteAdd3
import Derived.Test.YtfhaoamlagnpjaaDoorGNoteAdd10
import Derived.Test.YtfhaoamlagnpjaaDoorGNoteAdd9
import Derived.Test.YtfhaoamlagnpjaaDoorGNoteAdd12
import Derived.Test.YtfhaoamlagnpjaaDoorGNoteAdd13
set_option linter.unusedVariables false
set_option linter.unusedSimpArgs false
namespace Go.Proofs.YtfhaoamlagnpjaaDoor
open Go.RowKit Go.Lib
/-- A checkpoint as its parts. -/
structure Pt where
  o : ByteArray
  n : Int
  r : ByteArray
  es : List ByteArray
/-- What Parse reads. -/
def ParseR (s : ByteArray) (q : Pt) : Prop := ∃ d r, linesV s = some (q.o :: d :: r :: q.es) ∧ undV d = some q.n ∧ unb64V r = some q.r ∧ textV q.o q.n q.r q.es = .tuple #[.string s, .int .i64 0]
theorem ParseR.one {s : ByteArray} {p q : Pt} (hp : ParseR s p) (hq : ParseR s q) : p = q := by
  obtain ⟨d, r, h1, h2, h3, -⟩ := hp
  obtain ⟨d', r', k1, k2, k3, -⟩ := hq
  rw [h1] at k1
  injection k1 with k1
  injection k1 with e1 k1
  injection k1 with e2 k1
  injection k1 with e3 e4
  subst e2 e3
  rw [h2] at k2
  rw [h3] at k3
  injection k2 with k2
  injection k3 with k3
  cases p; cases q
  simp at *
  exact ⟨e1, k2, k3, e4⟩
def PointAt (base : Nat) (w : World) (u : Value) (q : Pt) : Prop := ∃ v, u = .agg #[.string q.o, .int .i64 q.n, .string q.r, v] ∧ OwnT w base v q.es
def noPt : Value := .agg #[.string ⟨#[]⟩, .int .i64 0, .string ⟨#[]⟩, .slice none 0 0]
/-- What Parse answers. -/
def ParseA (base : Nat) (s : ByteArray) (u : Value) (z : Nat) (w : World) : Prop := (∃ q, ParseR s q ∧ z = 0 ∧ PointAt base w u q) ∨ ((∀ q, ¬ ParseR s q) ∧ z = 204 ∧ u = noPt)
theorem results_cp {fn : Func} {p u : Tmp} (h : fn.results = #[.cell p 34, .tmp u]) (tmps : Array Value) (w : World) (g : Nat) (a b c d : Value) (hp : tmps.getD p undef = .pointer (some ⟨g, 0, none⟩)) (hB : Blk w g 34 #[a, b, c, d]) :
    (results fn tmps).run Tryd.prog w = .ok (.tuple #[.agg #[a, b, c, d], tmps.getD u undef]) w := by
  rw [results_cell_tmp h, hp]
  have hl := run_loadVar_row (P := Tryd.prog) w g 34 34 #[a, b, c, d] (0, 0) _ hB Tryd.underlying34 rfl (by kernel_rfl)
  simp [asAddr, hl, Result.andThen]
theorem undA_form (d : ByteArray) : ∃ (n : Int) (z : Nat), undA d = .tuple #[.int .i64 n, .int .i64 z] ∧ ((z = 0 ∧ undV d = some n) ∨ (z = 42 ∧ undV d = none)) := by
  cases h : undV d with
  | none => exact ⟨0, 42, undA_none h, .inr ⟨rfl, rfl⟩⟩
  | some n => exact ⟨n, 0, undA_some h, .inl ⟨rfl, rfl⟩⟩
theorem unbA_form (r : ByteArray) : ∃ (x : ByteArray) (z : Nat), unbA r = .tuple #[.string x, .int .i64 z] ∧ x.size ≤ r.size ∧ ((z = 0 ∧ unb64V r = some x) ∨ (z = 40 ∧ unb64V r = none)) := by
  cases h : unb64V r with
  | none => exact ⟨⟨#[]⟩, 40, unbA_none h, Nat.zero_le _, .inr ⟨rfl, rfl⟩⟩
  | some x =>
    have := b64S_size x
    rw [unb64V_some h] at this
    exact ⟨x, 0, unbA_some h, by omega, .inl ⟨rfl, rfl⟩⟩
theorem OwnT.tail {w : World} {base g n cap : Nat} {es : List ByteArray} (h : OwnT w base (.slice (some ⟨g, 0, none⟩) n cap) es) (k c : Nat) (hk : k ≤ es.length) : StrsAt w (.slice (some ⟨g, k, none⟩) (es.length - k) c) (es.drop k) := by
  refine ⟨some ⟨g, k, none⟩, c, by rw [List.length_drop], fun j hj => ⟨_, rfl, ?_⟩⟩
  have hadd : (⟨g, k, none⟩ : Addr).add j = ⟨g, k + j, none⟩ := by unfold Addr.add; split <;> simp_all
  rw [List.length_drop] at hj
  rw [hadd, h.cell (k + j) (by omega)]
  simp
theorem OwnT.slice {w : World} {base : Nat} {v : Value} {es : List ByteArray} (h : OwnT w base v es) : ∃ A c, v = .slice A es.length c := by
  rcases h.form with ⟨hv, he⟩ | ⟨g, cap, hv, -⟩
  · exact ⟨none, 0, by rw [hv, he]; rfl⟩
  · exact ⟨_, cap, hv⟩
theorem OwnT.mono {w : World} {base base' : Nat} {v : Value} {es : List ByteArray} (h : OwnT w base v es) (hb : base' ≤ base) : OwnT w base' v es := by
  refine ⟨h.1, ?_⟩
  rcases h.2 with h2 | ⟨g, cap, cur, h1, h2, h3⟩
  · exact .inl h2
  · exact .inr ⟨g, cap, cur, h1, by omega, h3⟩
theorem OwnT.far {w : World} {base : Nat} {v : Value} {es : List ByteArray} (h : OwnT w base v es) {p : Addr} (hp : p.block < base) (u : Value) : OwnT (w.setCell p u) base v es := by
  have hne : v.ownBlock ≠ some p.block := fun e => by have := (World.ownsRow.lt h _ e).1; omega
  have hb : Below 0 w (w.setCell p u) := (Below.refl _ _).setCell (Nat.zero_le _) u
  exact World.ownsRow.kept h (row := some p.block) ⟨hb.os, hb.tape, hb.output, hb.size, fun k hk hk2 => Below.heap_setCell _ _ _ _ (fun e => hk2 (by rw [e]))⟩ (.inr hne)
theorem OwnT.toStrs {w : World} {base : Nat} {v : Value} {es : List ByteArray} (h : OwnT w base v es) : StrsAt w v es := by
  rcases h.form with ⟨rfl, rfl⟩ | ⟨g, cap, rfl, -⟩
  · exact ⟨none, 0, rfl, fun j hj => absurd hj (by simp)⟩
  · have h2 := h.strs es.length cap (Nat.le_refl _)
    rwa [List.take_of_length_le (Nat.le_refl _)] at h2
/-- slices.Clone of texts. -/
theorem clone_any (g off n c : Nat) (es : List ByteArray) (w : World) (hS : StrsAt w (.slice (some ⟨g, off, none⟩) n c) es) (hn : n ≤ 1099511627776) :
    Calls Tryd.prog 54 #[.slice (some ⟨g, off, none⟩) n c] w fun e w' => ∃ v, e = .returned v ∧ OwnT w' w.heap.size v es ∧ Below w.heap.size w w' := by
  obtain ⟨A, c', hv, hc⟩ := hS
  injection hv with e1 e2 e3
  subst e1 e2 e3
  refine (Tryd.slices_Clone_string g off es.length c es w (Nat.le_refl _) (by omega) (fun j hj => ?_)).mono ?_
  · obtain ⟨a, ha, h1⟩ := hc j hj
    injection ha with ha
    subst ha
    have hadd : (⟨g, off, none⟩ : Addr).add j = ⟨g, off + j, none⟩ := by unfold Addr.add; split <;> simp_all
    rw [hadd] at h1
    rw [h1]
    simp [hj]
  · rintro e w' ⟨v, rfl, h1, _, h3⟩
    refine ⟨v, rfl, ?_, h3⟩
    rw [List.take_of_length_le (Nat.le_refl _)] at h1
    exact h1
theorem clone_tail (g cap : Nat) (o d r : ByteArray) (es : List ByteArray) (base : Nat) (w : World) (hO : OwnT w base (.slice (some ⟨g, 0, none⟩) (es.length + 3) cap) (o :: d :: r :: es)) (hcap : es.length + 3 ≤ cap) (hn : es.length ≤ 1099511627776) :
    Calls Tryd.prog 54 #[.slice (if cap = 3 then some ⟨g, 0, none⟩ else some ⟨g, 3, none⟩) es.length (cap - 3)] w fun e w' => ∃ v, e = .returned v ∧ OwnT w' w.heap.size v es ∧ Below w.heap.size w w' := by
  split
  · obtain rfl : es = [] := List.eq_nil_of_length_eq_zero (by omega)
    exact clone_any g 0 0 (cap - 3) [] w ⟨_, _, rfl, fun j hj => absurd hj (by simp)⟩ (by omega)
  · have h := hO.tail 3 (cap - 3) (by simp)
    exact clone_any g 3 es.length (cap - 3) es w (by simpa using h) hn
theorem linesV_len {s : ByteArray} {l : List ByteArray} (h : linesV s = some l) : (linesL l).length = s.size := by
  have hll : s.data.toList.length = s.size := Array.length_toList
  unfold linesV at h
  split at h
  · injection h with h
    subst h
    rename_i h0
    rw [h0]; rfl
  · split at h
    · injection h with h
      subst h
      rename_i h1 h2
      obtain ⟨r, hr⟩ := List.getLast?_eq_some_iff.1 h2
      have hj := splL_join 10 s.data.toList.dropLast
      have e : linesL ((splL 10 s.data.toList.dropLast).map bsL) = (splL 10 s.data.toList.dropLast).flatMap (fun x => x ++ [10]) := by
        unfold linesL
        rw [List.flatMap_map]
        rfl
      rw [e, hj, List.length_append, List.length_dropLast, hll]
      simp
      omega
    · cases h
theorem linesL_cons (x : ByteArray) (l : List ByteArray) : (linesL (x :: l)).length = x.size + 1 + (linesL l).length := by
  have hx : x.data.size = x.size := rfl
  simp [linesL]
  omega
theorem blk4_store {w : World} {g : Nat} {t : TypeId} {a b c d : Value} (h : Blk w g t #[a, b, c, d]) (a' b' c' d' : Value) : Blk ((((w.setCell ⟨g, 0, none⟩ a').setCell ⟨g, 1, none⟩ b').setCell ⟨g, 2, none⟩ c').setCell ⟨g, 3, none⟩ d') g t #[a', b', c', d'] := by
  have h2 := (((h.set_ 0 a').set_ 1 b').set_ 2 c').set_ 3 d'
  simpa using h2
theorem below4_store {B : Nat} {a w : World} {g : Nat} (h : Below B a w) (hg : B ≤ g) (a' b' c' d' : Value) : Below B a ((((w.setCell ⟨g, 0, none⟩ a').setCell ⟨g, 1, none⟩ b').setCell ⟨g, 2, none⟩ c').setCell ⟨g, 3, none⟩ d') :=
  (((h.setCell (p := ⟨g, 0, none⟩) hg a').setCell (p := ⟨g, 1, none⟩) hg b').setCell (p := ⟨g, 2, none⟩) hg c').setCell (p := ⟨g, 3, none⟩) hg d'
set_option maxRecDepth 100000 in
set_option maxHeartbeats 4000000 in
theorem parse_any (s : ByteArray) (w : World) (hs : s.size ≤ 1099511627776) (hT : Lib.Utf8Tabs 3 4 w) :
    Calls Tryd.prog 19 #[.string s] w fun e w' => ∃ u z, e = .returned (.tuple #[u, .int .i64 (z : Nat)]) ∧ ParseA w.heap.size s u z w' ∧ Below w.heap.size w w' := by
  have HT := hide hT; clear hT
  have hli := fun W => lines_any s W hs
  have HLI := hide hli; clear hli
  go_enter Tryd.func19, Tryd.ntmps19
  go_wp2_with fail
  refine (unhide HLI _).mono ?_
  rintro e w1 ⟨v, rfl, hA, hb1⟩
  have hw1 : Below w.heap.size w w1 := ((Below.refl _ _).alloc (Nat.le_refl _) _).trans (hb1.mono (by simp))
  have hP1 : Blk w1 w.heap.size 34 #[.string ⟨#[]⟩, .int .i64 0, .string ⟨#[]⟩, .slice none 0 0] := (Blk.new w _ _).below hb1 (by simp)
  rcases hA.get with ⟨l, u, hl, rfl, hO⟩ | ⟨hl, rfl⟩
  · rcases Nat.lt_or_ge l.length 3 with h3 | h3
    · have hno : Hid (∀ q, ¬ ParseR s q) := by
        rintro q ⟨d, r, h, -⟩
        rw [hl] at h
        injection h with h
        rw [h] at h3
        simp at h3
        omega
      have hlen : ∃ A c, u = .slice A l.length c := by
        rcases hO.form with ⟨hv, he⟩ | ⟨g, cap, hv, -⟩
        · exact ⟨none, 0, by rw [hv, he]; rfl⟩
        · exact ⟨_, cap, hv⟩
      obtain ⟨A, c, rfl⟩ := hlen
      have h3' : (l.length : Int) < 3 := by omega
      have H1 := hide (And.intro hw1 hP1); clear hw1 hP1 hA hb1 hl hO
      have k0 := (unhide H1).2.cell 0; have k1 := (unhide H1).2.cell 1; have k2 := (unhide H1).2.cell 2; have k3 := (unhide H1).2.cell 3
      have f0 := (unhide H1).2.frozen 0; have f1 := (unhide H1).2.frozen 1; have f2 := (unhide H1).2.frozen 2; have f3 := (unhide H1).2.frozen 3
      simp only [List.getElem?_toArray, List.getElem?_cons_zero, List.getElem?_cons_succ] at k0 k1 k2 k3
      go_wp2_with fail
      (try simp only [Exit.inBlock, Exit.then])
      refine bodyPost_ret (results_cp rfl _ _ w.heap.size _ _ _ _ rfl (blk4_store (unhide H1).2 _ _ _ _)) rfl ?_
      exact ⟨_, 204, rfl, .inr ⟨hno.out, rfl, rfl⟩, below4_store (unhide H1).1 (Nat.le_refl _) _ _ _ _⟩
    · obtain ⟨o, d, r, es, rfl⟩ : ∃ o d r es, l = o :: d :: r :: es := by
        match l, h3 with
        | o :: d :: r :: es, _ => exact ⟨o, d, r, es, rfl⟩
      obtain ⟨g, cap, rfl, hgb, hgl, hcap⟩ : ∃ g cap, u = .slice (some ⟨g, 0, none⟩) (o :: d :: r :: es).length cap ∧ w.heap.size + 1 ≤ g ∧ g < w1.heap.size ∧ (o :: d :: r :: es).length ≤ cap := by
        rcases hO.form with ⟨_, he⟩ | ⟨g, cap, hv, h1, h2, h4⟩
        · cases he
        · exact ⟨g, cap, hv, by simpa using h1, h2, h4⟩
      have c0 := hO.cell 0 (by simp)
      have c1 := hO.cell 1 (by simp)
      have c2 := hO.cell 2 (by simp)
      simp only [List.getElem_cons_zero, List.getElem_cons_succ] at c0 c1 c2
      have hlen := linesV_len hl
      rw [linesL_cons, linesL_cons, linesL_cons] at hlen
      have hd := fun W => undec_any d W (by omega)
      have hr := fun W => unb_any r W (by omega)
      simp only [List.length_cons] at hcap
      have hcap' : es.length + 3 ≤ cap := by omega
      have HD := hide hd; have HR := hide hr; clear hd hr hcap
      have H1 := hide (And.intro hw1 (And.intro hP1 (And.intro hO hl))); clear hw1 hP1 hA hb1 hl hO h3
      rw [show (o :: d :: r :: es).length = es.length + 3 from rfl] at *
      go_wp2_with fail
      obtain ⟨n, zd, hud, hzd⟩ := undA_form d
      obtain ⟨x, zr, hub, hxr, hzr⟩ := unbA_form r
      rw [hud] at HD
      rw [hub] at HR
      have hzd0 : zd = 0 ∨ zd = 42 := hzd.elim (fun h => .inl h.1) (fun h => .inr h.1)
      have hzr0 : zr = 0 ∨ zr = 40 := hzr.elim (fun h => .inl h.1) (fun h => .inr h.1)
      refine (unhide HD _).mono ?_
      rintro e w2 ⟨rfl, hb2⟩
      have hw2 := (unhide H1).1.trans (hb2.mono (unhide H1).1.size)
      have hO2 := (unhide H1).2.2.1.below hb2
      have c22 := hO2.cell 2 (by simp)
      simp only [List.getElem_cons_zero, List.getElem_cons_succ] at c22
      have hP2 := (unhide H1).2.1.below hb2 (unhide H1).2.1.lt
      have H2 := hide (And.intro hw2 (And.intro hO2 hP2)); clear hw2 hO2 hP2 hb2 c0 c1 c2
      go_wp2_with fail
      refine (unhide HR _).mono ?_
      rintro e w3 ⟨rfl, hb3⟩
      have hw3 := (unhide H2).1.trans (hb3.mono (unhide H2).1.size)
      have hO3 := (unhide H2).2.1.below hb3
      have c30 := hO3.cell 0 (by simp)
      simp only [List.getElem_cons_zero] at c30
      have hP3 := (unhide H2).2.2.below hb3 (unhide H2).2.2.lt
      have hcl := fun W (hO : OwnT W (w.alloc (.cells #[.string ⟨#[]⟩, .int .i64 0, .string ⟨#[]⟩, .slice none 0 0] 34)).heap.size (.slice (some ⟨g, 0, none⟩) (es.length + 3) cap) (o :: d :: r :: es)) => clone_tail g cap o d r es _ W hO hcap' (by have := linesL_ge es; omega)
      obtain ⟨P0, hif⟩ : ∃ P0, (if cap = 3 then some (⟨g, 0, none⟩ : Addr) else some ⟨g, 3, none⟩) = P0 := ⟨_, rfl⟩
      rw [hif] at hcl
      have HCL := hide hcl; clear hcl
      have H3 := hide (And.intro hw3 (And.intro hO3 hP3)); clear hw3 hO3 hP3 hb3 c22
      go_wp2_with fail
      have hc3 : (3 : Int) ≤ (cap : Int) := by omega
      have hi0 : (0 : Int) < (es.length : Int) + 3 := by omega
      have hi3 : (3 : Int) ≤ (es.length : Int) + 3 := by omega
      have hi4 : (es.length : Int) + 3 ≤ (cap : Int) := by omega
      have hi5 : ((es.length + 3 : Nat) : Int) = (es.length : Int) + 3 := by omega
      have m3 := World.new_ne w3 _ c30
      go_region_held3 (fun W => W.cell? ⟨g, 0, none⟩ = some (.string o)) (first | assumption | go_keep) (first | (go_at_call 54; first | (refine (unhide HCL _ (unhide H3).2.1.drew).mono ?_; rintro e w4 ⟨v, rfl, hO4, hb4⟩; obtain ⟨A4, cc4, rfl⟩ := hO4.slice; have c40 : w4.cell? ⟨g, 0, none⟩ = some (.string o) := by { have h := ((unhide H3).2.1.drew.below hb4).cell 0 (by simp); simpa using h }; have m4 := World.new_ne w4 _ c40) | (refine (unhide HCL _ ((unhide H3).2.1.alloc (.cells #[.string ⟨#[]⟩, .int .i64 0, .string ⟨#[]⟩, .slice none 0 0] 34)).drew).mono ?_; rintro e w4 ⟨v, rfl, hO4, hb4⟩; obtain ⟨A4, cc4, rfl⟩ := hO4.slice; have c40 : w4.cell? ⟨g, 0, none⟩ = some (.string o) := by { have h := (((unhide H3).2.1.alloc (.cells #[.string ⟨#[]⟩, .int .i64 0, .string ⟨#[]⟩, .slice none 0 0] 34)).drew.below hb4).cell 0 (by simp); simpa using h }; have hN4 : Blk w4 w3.heap.size 34 #[.string ⟨#[]⟩, .int .i64 0, .string ⟨#[]⟩, .slice none 0 0] := ((Blk.new w3 _ _).drew).below hb4 (by simp); have k0 := hN4.cell 0; have k1 := hN4.cell 1; have k2 := hN4.cell 2; have k3 := hN4.cell 3; have f0 := hN4.frozen 0; have f1 := hN4.frozen 1; have f2 := hN4.frozen 2; have f3 := hN4.frozen 3; simp only [List.getElem?_toArray, List.getElem?_cons_zero, List.getElem?_cons_succ] at k0 k1 k2 k3)))
      all_goals (
        have hlt := (unhide H3).2.2.lt
        have hsz := (unhide H3).1.size
        first
          | (have HF : Hid (Below w.heap.size w (w4.alloc (.cells #[.string o, .int .i64 n, .string x, .slice A4 es.length cc4] 34)) ∧ Blk (w4.alloc (.cells #[.string o, .int .i64 n, .string x, .slice A4 es.length cc4] 34)) w4.heap.size 34 #[.string o, .int .i64 n, .string x, .slice A4 es.length cc4] ∧ OwnT (w4.alloc (.cells #[.string o, .int .i64 n, .string x, .slice A4 es.length cc4] 34)) (w.heap.size + 1) (.slice A4 es.length cc4) es ∧ Blk (w4.alloc (.cells #[.string o, .int .i64 n, .string x, .slice A4 es.length cc4] 34)) w.heap.size 34 #[.string ⟨#[]⟩, .int .i64 0, .string ⟨#[]⟩, .slice none 0 0]) := ⟨((unhide H3).1.drew.trans (hb4.mono hsz)).alloc (by have := hb4.size; have h2 : w.heap.size ≤ w3.drew.heap.size := hsz; omega) _, Blk.new w4 _ _, ((hO4.alloc _).mono (by show w.heap.size + 1 ≤ w3.heap.size; omega)), (((unhide H3).2.2.drew.below hb4 hlt).alloc _)⟩
             clear m4 hb4 hO4 c40
             generalize (w4.alloc (.cells #[.string o, .int .i64 n, .string x, .slice A4 es.length cc4] 34)) = W at *
             generalize w4.heap.size = gp at *)
          | (have hs4 : w.heap.size ≤ (w3.alloc (.cells #[.string ⟨#[]⟩, .int .i64 0, .string ⟨#[]⟩, .slice none 0 0] 34)).drew.heap.size := by { show w.heap.size ≤ (w3.alloc (.cells #[.string ⟨#[]⟩, .int .i64 0, .string ⟨#[]⟩, .slice none 0 0] 34)).heap.size; simp; omega }
             have hb0 := ((unhide H3).1.alloc hsz (.cells #[.string ⟨#[]⟩, .int .i64 0, .string ⟨#[]⟩, .slice none 0 0] 34)).drew.trans (hb4.mono hs4)
             have hs5 : w3.heap.size < (w3.alloc (.cells #[.string ⟨#[]⟩, .int .i64 0, .string ⟨#[]⟩, .slice none 0 0] 34)).drew.heap.size := by { show w3.heap.size < (w3.alloc (.cells #[.string ⟨#[]⟩, .int .i64 0, .string ⟨#[]⟩, .slice none 0 0] 34)).heap.size; simp }
             have h5 := ((unhide H3).2.2.alloc (.cells #[.string ⟨#[]⟩, .int .i64 0, .string ⟨#[]⟩, .slice none 0 0] 34)).drew.below hb4 (by omega)
             have hn : w.heap.size ≠ w3.heap.size := by omega
             have HF : Hid (Below w.heap.size w ((((w4.setCell ⟨w3.heap.size, 0, none⟩ (.string o)).setCell ⟨w3.heap.size, 1, none⟩ (.int .i64 n)).setCell ⟨w3.heap.size, 2, none⟩ (.string x)).setCell ⟨w3.heap.size, 3, none⟩ (.slice A4 es.length cc4)) ∧ Blk ((((w4.setCell ⟨w3.heap.size, 0, none⟩ (.string o)).setCell ⟨w3.heap.size, 1, none⟩ (.int .i64 n)).setCell ⟨w3.heap.size, 2, none⟩ (.string x)).setCell ⟨w3.heap.size, 3, none⟩ (.slice A4 es.length cc4)) w3.heap.size 34 #[.string o, .int .i64 n, .string x, .slice A4 es.length cc4] ∧ OwnT ((((w4.setCell ⟨w3.heap.size, 0, none⟩ (.string o)).setCell ⟨w3.heap.size, 1, none⟩ (.int .i64 n)).setCell ⟨w3.heap.size, 2, none⟩ (.string x)).setCell ⟨w3.heap.size, 3, none⟩ (.slice A4 es.length cc4)) (w.heap.size + 1) (.slice A4 es.length cc4) es ∧ Blk ((((w4.setCell ⟨w3.heap.size, 0, none⟩ (.string o)).setCell ⟨w3.heap.size, 1, none⟩ (.int .i64 n)).setCell ⟨w3.heap.size, 2, none⟩ (.string x)).setCell ⟨w3.heap.size, 3, none⟩ (.slice A4 es.length cc4)) w.heap.size 34 #[.string ⟨#[]⟩, .int .i64 0, .string ⟨#[]⟩, .slice none 0 0]) := ⟨below4_store hb0 hsz _ _ _ _, blk4_store hN4 _ _ _ _, ((((hO4.far (p := ⟨w3.heap.size, 0, none⟩) hs5 _).far (p := ⟨w3.heap.size, 1, none⟩) hs5 _).far (p := ⟨w3.heap.size, 2, none⟩) hs5 _).far (p := ⟨w3.heap.size, 3, none⟩) hs5 _).mono (by show w.heap.size + 1 ≤ (w3.alloc (.cells #[.string ⟨#[]⟩, .int .i64 0, .string ⟨#[]⟩, .slice none 0 0] 34)).heap.size; simp; omega), (((h5.far (p := ⟨w3.heap.size, 0, none⟩) hn _).far (p := ⟨w3.heap.size, 1, none⟩) hn _).far (p := ⟨w3.heap.size, 2, none⟩) hn _).far (p := ⟨w3.heap.size, 3, none⟩) hn _⟩
             clear hb4 hO4 c40 hN4 k0 k1 k2 k3 f0 f1 f2 f3 hs4 hb0 hs5 h5 hn
             generalize ((((w4.setCell ⟨w3.heap.size, 0, none⟩ (.string o)).setCell ⟨w3.heap.size, 1, none⟩ (.int .i64 n)).setCell ⟨w3.heap.size, 2, none⟩ (.string x)).setCell ⟨w3.heap.size, 3, none⟩ (.slice A4 es.length cc4)) = W at *
             generalize w3.heap.size = gp at *)
        have k0 := (unhide HF).2.1.cell 0; have k1 := (unhide HF).2.1.cell 1; have k2 := (unhide HF).2.1.cell 2; have k3 := (unhide HF).2.1.cell 3
        simp only [List.getElem?_toArray, List.getElem?_cons_zero, List.getElem?_cons_succ] at k0 k1 k2 k3
        have hcall := noteTx_any o x n _ es W (by omega) (by omega) (by omega) (unhide HF).2.2.1.toStrs (Tabs.below (unhide HT) (unhide HF).1 (Tabs.lt3 (unhide HT)) (Tabs.lt4 (unhide HT)))
        obtain ⟨tx, tz, htv, htz⟩ := textV_form o n x es
        rw [htv] at hcall
        have HTV := Lib.hid htv; have HC := hide hcall; clear htv hcall
        clear hi0 hi3 hi4 hi5 hc3 hlt hsz
        go_wp2_with fail
        refine (unhide HC).mono ?_
        rintro e w5 ⟨rfl, hb5⟩
        have H5 := hide (And.intro ((unhide HF).1.trans (hb5.mono (unhide HF).1.size)) (And.intro ((unhide HF).2.1.below hb5 (unhide HF).2.1.lt) (And.intro ((unhide HF).2.2.1.below hb5) (And.intro ((unhide HF).2.2.2.below hb5 (unhide HF).2.2.2.lt) trivial))))
        have hbad : ∀ n' x', undV d = some n' → unb64V r = some x' → textV o n' x' es = .tuple #[.string s, .int .i64 0] → zd = 0 ∧ zr = 0 ∧ tz = 0 ∧ tx = s := by
          intro n' x' q2 q3 q4
          rcases hzd with ⟨a1, a2⟩ | ⟨a1, a2⟩
          · rcases hzr with ⟨b1, b2⟩ | ⟨b1, b2⟩
            · rw [a2] at q2
              rw [b2] at q3
              injection q2 with q2
              injection q3 with q3
              subst q2 q3
              rw [HTV.out] at q4
              injection q4 with q4
              simp at q4
              exact ⟨a1, b1, by omega, q4.1⟩
            · rw [b2] at q3; cases q3
          · rw [a2] at q2; cases q2
        have HBD := hide hbad; have HZD := hide hzd; have HZR := hide hzr
        clear hbad hzd hzr k0 k1 k2 k3 hb5
        have hno0 : ¬ (zd = 0 ∧ zr = 0 ∧ tz = 0 ∧ tx = s) → Hid (∀ q, ¬ ParseR s q) := by
          intro hb
          rintro ⟨o', n', x', es'⟩ ⟨d', r', q1, q2, q3, q4⟩
          rw [(unhide H1).2.2.2] at q1
          injection q1 with q1
          injection q1 with e1 q1
          injection q1 with e2 q1
          injection q1 with e3 e4
          subst e1 e2 e3 e4
          exact hb (unhide HBD n' x' q2 q3 q4)
        have p0 := (unhide H5).2.2.2.1.cell 0; have p1 := (unhide H5).2.2.2.1.cell 1; have p2 := (unhide H5).2.2.2.1.cell 2; have p3 := (unhide H5).2.2.2.1.cell 3
        have g0 := (unhide H5).2.2.2.1.frozen 0; have g1 := (unhide H5).2.2.2.1.frozen 1; have g2 := (unhide H5).2.2.2.1.frozen 2; have g3 := (unhide H5).2.2.2.1.frozen 3
        have k0 := (unhide H5).2.1.cell 0; have k1 := (unhide H5).2.1.cell 1; have k2 := (unhide H5).2.1.cell 2; have k3 := (unhide H5).2.1.cell 3
        simp only [List.getElem?_toArray, List.getElem?_cons_zero, List.getElem?_cons_succ] at p0 p1 p2 p3 k0 k1 k2 k3
        have HN0 := hide hno0; clear hno0
        rcases hzd0 with hz1 | hz1
        · rcases hzr0 with hz2 | hz2
          · by_cases hz3 : tz = 0
            · by_cases hz4 : tx = s
              · have hz4' : (tx.toList == s.toList) = true := by rw [hz4]; exact beq_self_eq_true _
                subst hz1 hz2 hz3
                go_wp2_with fail
                (try simp only [Exit.inBlock, Exit.then])
                refine bodyPost_ret (results_cp rfl _ _ w.heap.size _ _ _ _ rfl (blk4_store (unhide H5).2.2.2.1 _ _ _ _)) rfl ?_
                have hud' : undV d = some n := (unhide HZD).elim (fun h => h.2) (fun h => by cases h.1)
                have hub' : unb64V r = some x := (unhide HZR).elim (fun h => h.2) (fun h => by cases h.1)
                refine ⟨_, 0, rfl, .inl ⟨⟨o, n, x, es⟩, ⟨d, r, (unhide H1).2.2.2, hud', hub', by rw [HTV.out, hz4]; rfl⟩, rfl, ⟨_, rfl, ?_⟩⟩, below4_store (unhide H5).1 (Nat.le_refl _) _ _ _ _⟩
                exact (((((unhide H5).2.2.1.far (p := ⟨w.heap.size, 0, none⟩) (Nat.lt_succ_self _) _).far (p := ⟨w.heap.size, 1, none⟩) (Nat.lt_succ_self _) _).far (p := ⟨w.heap.size, 2, none⟩) (Nat.lt_succ_self _) _).far (p := ⟨w.heap.size, 3, none⟩) (Nat.lt_succ_self _) _).mono (Nat.le_succ _)
              · have hz4' := toList_ne hz4
                have hno := unhide HN0 (fun h => hz4 h.2.2.2)
                subst hz1 hz2 hz3
                go_wp2_with fail
                (try simp only [Exit.inBlock, Exit.then])
                refine bodyPost_ret (results_cp rfl _ _ w.heap.size _ _ _ _ rfl (blk4_store (unhide H5).2.2.2.1 _ _ _ _)) rfl ?_
                exact ⟨_, 204, rfl, .inr ⟨hno.out, rfl, rfl⟩, below4_store (unhide H5).1 (Nat.le_refl _) _ _ _ _⟩
            · have hz3' : ((tz : Int) == 0) = false := by rw [beq_eq_false_iff_ne]; omega
              have hno := unhide HN0 (fun h => hz3 h.2.2.1)
              subst hz1 hz2
              go_wp2_with fail
              (try simp only [Exit.inBlock, Exit.then])
              refine bodyPost_ret (results_cp rfl _ _ w.heap.size _ _ _ _ rfl (blk4_store (unhide H5).2.2.2.1 _ _ _ _)) rfl ?_
              exact ⟨_, 204, rfl, .inr ⟨hno.out, rfl, rfl⟩, below4_store (unhide H5).1 (Nat.le_refl _) _ _ _ _⟩
          · have hno := unhide HN0 (fun h => by have := h.2.1; omega)
            subst hz1 hz2
            go_wp2_with fail
            (try simp only [Exit.inBlock, Exit.then])
            refine bodyPost_ret (results_cp rfl _ _ w.heap.size _ _ _ _ rfl (blk4_store (unhide H5).2.2.2.1 _ _ _ _)) rfl ?_
            exact ⟨_, 204, rfl, .inr ⟨hno.out, rfl, rfl⟩, below4_store (unhide H5).1 (Nat.le_refl _) _ _ _ _⟩
        · have hno := unhide HN0 (fun h => by have := h.1; omega)
          subst hz1
          go_wp2_with fail
          (try simp only [Exit.inBlock, Exit.then])
          refine bodyPost_ret (results_cp rfl _ _ w.heap.size _ _ _ _ rfl (blk4_store (unhide H5).2.2.2.1 _ _ _ _)) rfl ?_
          exact ⟨_, 204, rfl, .inr ⟨hno.out, rfl, rfl⟩, below4_store (unhide H5).1 (Nat.le_refl _) _ _ _ _⟩)
  · have hno : Hid (∀ q, ¬ ParseR s q) := by
      rintro q ⟨d, r, h, -⟩
      rw [hl] at h
      cases h
    have H1 := hide (And.intro hw1 hP1); clear hw1 hP1 hA hb1 hl
    have k0 := (unhide H1).2.cell 0; have k1 := (unhide H1).2.cell 1; have k2 := (unhide H1).2.cell 2; have k3 := (unhide H1).2.cell 3
    have f0 := (unhide H1).2.frozen 0; have f1 := (unhide H1).2.frozen 1; have f2 := (unhide H1).2.frozen 2; have f3 := (unhide H1).2.frozen 3
    simp only [List.getElem?_toArray, List.getElem?_cons_zero, List.getElem?_cons_succ] at k0 k1 k2 k3
    go_wp2_with fail
    (try simp only [Exit.inBlock, Exit.then])
    refine bodyPost_ret (results_cp rfl _ _ w.heap.size _ _ _ _ rfl (blk4_store (unhide H1).2 _ _ _ _)) rfl ?_
    exact ⟨_, 204, rfl, .inr ⟨hno.out, rfl, rfl⟩, below4_store (unhide H1).1 (Nat.le_refl _) _ _ _ _⟩
end Go.Proofs.YtfhaoamlagnpjaaDoor

set_option linter.unusedVariables false
set_option linter.unusedSimpArgs false
namespace Go.Proofs.YtfhaoamlagnpjaaDoor
open Go.RowKit Go.Lib
theorem noTwo_drop {L : List UInt8} {k : Nat} (hk : k + 1 < L.length) (h : NoTwo (L.drop (k + 1))) (hn : ¬ (L[k] = 10 ∧ L[k + 1] = 10)) : NoTwo (L.drop k) := by
  rw [List.drop_eq_getElem_cons (by omega)]
  refine ⟨fun e => hn ⟨e.1, ?_⟩, h⟩
  have h2 := e.2
  rw [List.drop_eq_getElem_cons hk] at h2
  exact Option.some.inj h2
set_option maxRecDepth 100000 in
set_option maxHeartbeats 1000000 in
theorem rpart_any (s : ByteArray) (w : World) (hs : s.size ≤ 1099511627776) :
    Calls Tryd.prog 96 #[.string s] w fun e w' => ∃ z : Int, e = .returned (.int .i64 z) ∧ PartIs s.data.toList z ∧ w = w' := by
  have hll : s.data.toList.length = s.size := Array.length_toList
  go_enter Tryd.func96, Tryd.ntmps96
  go_wp2_with fail
  go_loop [3] (fun i => ∃ z : Int, i = .int .i64 z ∧ -2 ≤ z ∧ z ≤ (s.size : Int) - 2 ∧ Hid (NoTwo (s.data.toList.drop (z + 1).toNat))) (fun i => (RowKit.intOf i + 2).toNat)
  case atStart =>
    refine ⟨_, rfl, by omega, by omega, ?_⟩
    rcases Nat.eq_zero_or_pos s.size with h0 | h0
    · rw [List.drop_eq_nil_of_le (by omega)]; trivial
    · have e : ((s.size : Int) - 2 + 1).toNat = s.size - 1 := by omega
      rw [e, List.drop_eq_getElem_cons (by omega), List.drop_eq_nil_of_le (by omega)]
      exact ⟨fun e => by simp at e, trivial⟩
  case round =>
    obtain ⟨z, rfl, hz1, hz2, hN⟩ := hrel
    by_cases hz : 0 ≤ z
    · obtain ⟨k, rfl⟩ : ∃ k : Nat, z = (k : Int) := ⟨z.toNat, by omega⟩
      have hk1 : k < s.size := by omega
      have hk2 : k + 1 < s.size := by omega
      have hN' : Hid (NoTwo (s.data.toList.drop (k + 1))) := by
        have h := hN.out
        rw [show ((k : Int) + 1).toNat = k + 1 from by omega] at h
        exact h
      clear hN
      have e1 : s.data.toList[k]'(by omega) = s[k] := rfl
      have e2 : s.data.toList[k + 1]'(by omega) = s[k + 1] := rfl
      have i1 : (k : Int) < (s.size : Int) := by omega
      have i2 : (k : Int) + 1 < (s.size : Int) := by omega
      by_cases h1 : s[k] = 10
      · have t1 : ((s[k].toNat : Int) == 10) = true := by rw [h1]; rfl
        by_cases h2 : s[k + 1] = 10
        · have t2 : ((s[k + 1].toNat : Int) == 10) = true := by rw [h2]; rfl
          have hp : Hid (PartIs s.data.toList ((k : Int) + 1)) := by
            refine .inr ⟨s.data.toList.take (k + 1), s.data.toList.drop (k + 2), ?_, ?_, ?_, ?_⟩
            · have h3 := List.drop_eq_getElem_cons (l := s.data.toList) (i := k + 1) (by omega)
              rw [e2, h2] at h3
              rw [← h3, List.take_append_drop]
            · rw [List.take_succ_eq_append_getElem (by omega), e1, h1, List.getLast?_concat]
            · have h3 := List.drop_eq_getElem_cons (l := s.data.toList) (i := k + 1) (by omega)
              rw [e2, h2] at h3
              rw [← h3]; exact hN'.out
            · rw [List.length_take, hll]; omega
          clear h1 h2 e1 e2 hN'
          go_wp2_with fail
          go_ret
          exact ⟨_, rfl, hp.out, rfl⟩
        · have t2 : ((s[k + 1].toNat : Int) == 10) = false := by
            rw [beq_eq_false_iff_ne]; intro e
            exact h2 (UInt8.toNat_inj.1 (by have : s[k + 1].toNat = 10 := by omega
                                            rw [this]; rfl))
          have hp : Hid (NoTwo (s.data.toList.drop k)) := noTwo_drop (by omega) hN'.out (fun h => h2 (by rw [← e2]; exact h.2))
          clear h1 h2 e1 e2 hN'
          go_wp2_with fail
          go_round
          case rel => exact ⟨(k : Int) - 1, rfl, by omega, by omega, by rw [show ((k : Int) - 1 + 1).toNat = k from by omega]; exact hp⟩
          case measure => simp [RowKit.intOf]; omega
      · have t1 : ((s[k].toNat : Int) == 10) = false := by
          rw [beq_eq_false_iff_ne]; intro e
          exact h1 (UInt8.toNat_inj.1 (by have : s[k].toNat = 10 := by omega
                                          rw [this]; rfl))
        have hp : Hid (NoTwo (s.data.toList.drop k)) := noTwo_drop (by omega) hN'.out (fun h => h1 (by rw [← e1]; exact h.1))
        clear h1 e1 e2 hN'
        go_wp2_with fail
        go_round
        case rel => exact ⟨(k : Int) - 1, rfl, by omega, by omega, by rw [show ((k : Int) - 1 + 1).toNat = k from by omega]; exact hp⟩
        case measure => simp [RowKit.intOf]; omega
    · have hp : Hid (PartIs s.data.toList (-1)) := by
        refine .inl ⟨rfl, ?_⟩
        have h := hN.out
        rw [show (z + 1).toNat = 0 from by omega] at h
        exact h
      clear hN
      go_wp2_with fail
      go_ret
      exact ⟨_, rfl, hp.out, rfl⟩
theorem part_le {L : List UInt8} {z : Int} (h : PartIs L z) : z < L.length ∧ -1 ≤ z := by
  rcases h with ⟨rfl, -⟩ | ⟨u, v, rfl, -, -, rfl⟩
  · omega
  · simp; omega
theorem linesV_mem {s : ByteArray} {es : List ByteArray} (h : linesV s = some es) : ∀ x ∈ es, x.size ≤ s.size := by
  intro x hx
  have hll : s.data.toList.length = s.size := Array.length_toList
  unfold linesV at h
  split at h
  · injection h with h; subst h; simp at hx
  · split at h
    · injection h with h
      subst h
      obtain ⟨y, hy, rfl⟩ := List.mem_map.1 hx
      have := splL_mem 10 _ _ hy
      rw [List.length_dropLast] at this
      rw [bsL_size]; omega
    · cases h
theorem OwnT.keepG {w w' : World} {b b' : Nat} {t v : Value} {es : List ByteArray} {xs : List SigR} {o : Obj} (h : OwnT w b t es) (hG : OwnG w b' v xs) (hg : (w.alloc o).grownBy w' v.ownBlock) : OwnT w' b t es := by
  refine World.ownsRow.kept (h.alloc o) hg ?_
  rcases h.2 with ⟨rfl, _⟩ | ⟨g, cap, cur, rfl, _, hh, _⟩
  · exact .inl rfl
  · refine .inr fun e => ?_
    have e' : v.ownBlock = some g := by simpa [Value.ownBlock] using e.symm
    exact own_blk_ne hG (g := g) (t := 9) (cs := cur) hh (by decide) e'
set_option maxRecDepth 100000 in
set_option maxHeartbeats 4000000 in
theorem rread_any (note : ByteArray) (w : World) (hs : note.size ≤ 1099511627776) :
    Calls Tryd.prog 70 #[.string note] w fun e w' => ReadR w.heap.size note e w' ∧ Below w.heap.size w w' := by
  rcases Nat.lt_or_ge 65536 note.size with h6 | h6
  · have h6' : (65536 : Int) < (note.size : Int) := by omega
    go_enter Tryd.func70, Tryd.ntmps70
    go_wp2_with fail
    go_ret3
    exact ⟨.inl ⟨h6, rfl⟩, Below.refl _ _⟩
  · have h6' : ¬ (65536 : Int) < (note.size : Int) := by omega
    have hll : note.data.toList.length = note.size := Array.length_toList
    have hpa := rpart_any note w hs
    have HPA := hide hpa; clear hpa
    go_enter Tryd.func70, Tryd.ntmps70
    go_wp2_with fail
    refine (unhide HPA).mono ?_
    rintro e w1 ⟨z, rfl, hz, rfl⟩
    have hzl := part_le hz
    have hsame := Lib.hid (read_same note z hz)
    clear hz
    by_cases hz0 : z < 0
    · have hres : Hid (readV note = none) := by rw [Hid, ← hsame.out]; unfold refV; rw [if_pos hz0]
      clear hsame
      go_wp2_with fail
      go_ret3
      exact ⟨.inr (.inl ⟨h6, hres.out, rfl⟩), Below.refl _ _⟩
    · obtain ⟨k, rfl⟩ : ∃ k : Nat, z = (k : Int) := ⟨z.toNat, by omega⟩
      have hk : k + 1 ≤ note.size := by omega
      have hgo := fun W => rgoes_any (note.extract 0 k) W (by rw [ByteArray.size_extract]; omega)
      have hli := fun W => rlines_any (note.extract (k + 1) note.size) W (by rw [ByteArray.size_extract]; omega)
      have hrf : Hid (readV note = if goesV (note.extract 0 k) = true then match linesV (note.extract (k + 1) note.size) with
          | none => none
          | some L => if L.length = 0 ∨ 16 < L.length then none else (rdFw L []).map fun S => (note.extract 0 k, S)
        else none) := by rw [Hid, ← hsame.out]; unfold refV; rw [if_neg hz0, Int.toNat_natCast]; rfl
      have hlz : (note.extract (k + 1) note.size).size ≤ 65536 := by rw [ByteArray.size_extract]; omega
      have i1 : (k : Int) + 1 ≤ (note.size : Int) := by omega
      have HGO := hide hgo; have HLI := hide hli; clear hgo hli hsame
      go_wp2_with fail
      generalize note.extract 0 k = txt at *
      refine ((unhide HGO) _).mono ?_
      rintro e w2 ⟨rfl, hb2⟩
      have HB2 := hide hb2; clear hb2
      go_wp2_with fail
      generalize note.extract (k + 1) note.size = rst at *
      refine ((unhide HLI) _).mono ?_
      rintro e w3 ⟨v3, rfl, hL, hb3⟩
      have hb3' := (unhide HB2).trans (hb3.mono (unhide HB2).size)
      rcases hL.get with ⟨es, u, hes, rfl, hO⟩ | ⟨hes, rfl⟩
      · have hmem := linesV_mem hes
        have hrf2 : Hid (readV note = if goesV txt = true then (if es.length = 0 ∨ 16 < es.length then none else (rdFw es []).map fun S => (txt, S)) else none) := by rw [Hid, hrf.out, hes]
        have HB3 := hide (And.intro hb3' (And.intro (hO.mono (unhide HB2).size) (fun x hx => Nat.le_trans (hmem x hx) hlz))); clear hb3' hb3 hL hrf hes hmem hO
        obtain ⟨A, c, rfl⟩ : ∃ A c, u = .slice A es.length c := by
          rcases (unhide HB3).2.1.form with ⟨h1, h2⟩ | ⟨g, cap, h1, -⟩
          · exact ⟨none, 0, by rw [h1, h2]; rfl⟩
          · exact ⟨_, _, h1⟩
        cases hg : goesV txt with
        | false =>
          have hres : Hid (readV note = none) := by rw [Hid, hrf2.out, if_neg (by rw [hg]; decide)]
          clear hrf2 hg
          go_wp2_with fail
          go_ret3
          exact ⟨.inr (.inl ⟨h6, hres.out, rfl⟩), (unhide HB3).1⟩
        | true =>
          by_cases hlen : es.length = 0 ∨ 16 < es.length
          · have hres : Hid (readV note = none) := by rw [Hid, hrf2.out, if_pos hg, if_pos hlen]
            clear hrf2 hg
            rcases hlen with hlen | hlen
            · have h0' : ((es.length : Int) == 0) = true := by rw [hlen]; rfl
              clear hlen
              go_wp2_with fail
              go_ret3
              exact ⟨.inr (.inl ⟨h6, hres.out, rfl⟩), (unhide HB3).1⟩
            · have h0' : ((es.length : Int) == 0) = false := by rw [beq_eq_false_iff_ne]; omega
              have h16' : (16 : Int) < (es.length : Int) := by omega
              go_wp2_with fail
              go_ret3
              exact ⟨.inr (.inl ⟨h6, hres.out, rfl⟩), (unhide HB3).1⟩
          · have hrf3 : Hid (readV note = (rdFw es []).map fun S => (txt, S)) := by rw [Hid, hrf2.out, if_pos hg, if_neg hlen]
            have h0' : ((es.length : Int) == 0) = false := by rw [beq_eq_false_iff_ne]; omega
            have h16' : ¬ (16 : Int) < (es.length : Int) := by omega
            have hn16 : es.length ≤ 16 := by omega
            clear hrf2 hg hlen
            go_wp2_with fail
            go_loopw [10, 11] (fun v i wr => ∃ (k : Nat) (acc : List SigR), k ≤ es.length ∧ i = .int .i64 k ∧ Hid (rdFw (es.drop k) acc = rdFw es []) ∧ acc.length = k ∧ OwnG wr w.heap.size v acc ∧ Below w.heap.size w wr ∧ OwnT wr w.heap.size (.slice A es.length c) es) (fun _ i _ => es.length - (RowKit.intOf i).toNat)
            case atStart => exact ⟨0, [], by omega, rfl, Lib.hid rfl, rfl, OwnG.nil _ _, (unhide HB3).1, (unhide HB3).2.1⟩
            case round =>
              obtain ⟨j, acc, hj, rfl, hI, hal, hOG, hb, hOT⟩ := hrel
              have hal1 : acc.length ≤ 16 := by omega
              have hal2 : j ≤ acc.length := by omega
              have hal3 : acc.length ≤ j := by omega
              have HX := hide (And.intro hI (And.intro hOG (And.intro hb hOT))); clear hI hOG hb hOT hal
              rcases Nat.lt_or_ge j es.length with hlt | hge
              · obtain ⟨g, rfl, hcell⟩ : ∃ g, A = some ⟨g, 0, none⟩ ∧ wr.cell? ⟨g, j, none⟩ = some (.string es[j]) := by
                  rcases (unhide HX).2.2.2.form with ⟨h1, h2⟩ | ⟨g, cap, h1, -⟩
                  · rw [h2] at hlt; simp at hlt
                  · injection h1 with e1 _ e3
                    subst e1 e3
                    exact ⟨g, rfl, (unhide HX).2.2.2.cell j hlt⟩
                have hj2 : (j : Int) < (es.length : Int) := by omega
                have hxs := (unhide HB3).2.2 _ (List.getElem_mem hlt)
                have hst : Hid (rdFw es [] = match sigP es[j] with
                    | none => none
                    | some x => if amongV acc x = true then none else rdFw (es.drop (j + 1)) (acc ++ [x])) := by
                  rw [Hid, ← (unhide HX).1.out, List.drop_eq_getElem_cons hlt, rdFw]; rfl
                generalize es[j] = x at *
                have hsg := rsig_any x wr (by omega)
                have HSG := hide hsg; clear hsg
                cases hsp : sigP x with
                | none =>
                  have hres : Hid (readV note = none) := by rw [Hid, hrf3.out, hst.out, hsp]; rfl
                  rw [sigA_none hsp] at HSG
                  clear hst hsp hrf3
                  unfold sigV noSig at HSG
                  dsimp only at HSG
                  go_wp2_with fail
                  refine (unhide HSG).mono ?_
                  rintro e w4 ⟨rfl, hb4⟩
                  have hb4' : Below w.heap.size w w4 := (unhide HX).2.2.1.trans (hb4.mono (unhide HX).2.2.1.size)
                  have hO4 := (unhide HX).2.1.below hb4
                  have ham := ramong_any u10 acc ⟨⟨#[]⟩, ⟨#[]⟩, ⟨#[]⟩⟩ w.heap.size (w4.alloc (.cells #[.string ⟨#[]⟩, .string ⟨#[]⟩, .string ⟨#[]⟩] 71)) (by omega) (hO4.alloc _)
                  unfold sigV at ham
                  have HAM := hide ham; have H4 := hide (And.intro hb4' hO4); clear ham hb4 hb4' hO4 HSG hcell
                  go_wp2_with fail
                  refine (unhide HAM).mono ?_
                  rintro e w5 ⟨rfl, hb5⟩
                  have hb5' : Below w.heap.size w w5 := ((unhide H4).1.alloc (unhide H4).1.size _).trans (hb5.mono (by have := (unhide H4).1.size; simp; omega))
                  have H5 := hide hb5'; clear hb5 hb5'
                  go_wp2_with fail
                  go_ret3
                  exact ⟨.inr (.inl ⟨h6, hres.out, rfl⟩), unhide H5⟩
                | some y =>
                  have hst2 : Hid (rdFw es [] = if amongV acc y = true then none else rdFw (es.drop (j + 1)) (acc ++ [y])) := by rw [Hid, hst.out, hsp]
                  rw [sigA_some hsp] at HSG
                  obtain ⟨xn, xi, xm⟩ := y
                  clear hst hsp
                  unfold sigV at HSG
                  dsimp only at HSG
                  go_wp2_with fail
                  refine (unhide HSG).mono ?_
                  rintro e w4 ⟨rfl, hb4⟩
                  have hb4' : Below w.heap.size w w4 := (unhide HX).2.2.1.trans (hb4.mono (unhide HX).2.2.1.size)
                  have hO4 := (unhide HX).2.1.below hb4
                  have hT4 := (unhide HX).2.2.2.below hb4
                  have ham := ramong_any u10 acc ⟨xn, xi, xm⟩ w.heap.size (w4.alloc (.cells #[.string xn, .string xi, .string xm] 71)) (by omega) (hO4.alloc _)
                  unfold sigV at ham
                  have HAM := hide ham; have H4 := hide (And.intro hb4' (And.intro hO4 hT4)); clear ham hb4 hb4' hO4 hT4 HSG hcell
                  go_wp2_with fail
                  refine (unhide HAM).mono ?_
                  rintro e w5 ⟨rfl, hb5⟩
                  have hb5' : Below w.heap.size w w5 := ((unhide H4).1.alloc (unhide H4).1.size _).trans (hb5.mono (by have := (unhide H4).1.size; simp; omega))
                  have hO5 := ((unhide H4).2.1.alloc (.cells #[.string xn, .string xi, .string xm] 71)).below hb5
                  have hT5 := ((unhide H4).2.2.alloc (.cells #[.string xn, .string xi, .string xm] 71)).below hb5
                  have hN5 : Blk w5 w4.heap.size 71 #[.string xn, .string xi, .string xm] := (Blk.new w4 _ _).below hb5 (by simp)
                  have k0 := hN5.cell 0; have k1 := hN5.cell 1; have k2 := hN5.cell 2
                  simp only [List.getElem?_toArray, List.getElem?_cons_zero, List.getElem?_cons_succ] at k0 k1 k2
                  have H5 := hide (And.intro hb5' (And.intro hO5 hT5)); clear hb5 hb5' hO5 hN5 hT5 HAM
                  cases ham : amongV acc ⟨xn, xi, xm⟩ with
                  | true =>
                    have hres : Hid (readV note = none) := by rw [Hid, hrf3.out, hst2.out, if_pos ham]; rfl
                    clear hst2 hrf3
                    go_wp2_with fail
                    go_ret3
                    exact ⟨.inr (.inl ⟨h6, hres.out, rfl⟩), (unhide H5).1⟩
                  | false =>
                    have hnx : Hid (rdFw (es.drop (j + 1)) (acc ++ [⟨xn, xi, xm⟩]) = rdFw es []) := by rw [Hid, hst2.out, if_neg (by rw [ham]; decide)]
                    clear hst2 ham
                    go_wp2_with (first | (at_builtin; refine wpList_appG1 w5 rfl _ _ rfl (y := ⟨xn, xi, xm⟩) (unhide H5).2.1 rfl rfl (by omega) (unhide H5).1.size ?_; intro v6 w6 hO6 hg6 hat6; have H6 := hide (And.intro hO6 hg6); clear hO6 hg6 hat6))
                    go_roundw
                    case rel =>
                      refine ⟨j + 1, acc ++ [⟨xn, xi, xm⟩], by omega, by go_num, hnx, by simp; omega, (unhide H6).1, ((unhide H5).1.alloc (unhide H5).1.size _).grown (unhide H6).2 (by have := (unhide H5).1.size; simp; omega) (fun q hq => ((unhide H5).2.1.lt _ hq).1), ?_⟩
                      exact (unhide H5).2.2.keepG (unhide H5).2.1 (unhide H6).2
                    case measure => simp [RowKit.intOf]; omega
              · have hj2 : ¬ (j : Int) < (es.length : Int) := by omega
                have hres : Hid (readV note = some (txt, acc)) := by
                  rw [Hid, hrf3.out, ← (unhide HX).1.out, List.drop_eq_nil_of_le hge]; rfl
                clear hrf3
                go_wp2_with fail
                go_ret3
                exact ⟨.inr (.inr ⟨h6, _, _, _, hres.out, rfl, (unhide HX).2.1⟩), (unhide HX).2.2.1⟩
      · have hres : Hid (readV note = none) := by rw [Hid, hrf.out, hes]; split <;> rfl
        have HB3 := hide hb3'; clear hb3' hb3 hL hrf hes
        cases hg : goesV txt with
        | false =>
          go_wp2_with fail
          go_ret3
          exact ⟨.inr (.inl ⟨h6, hres.out, rfl⟩), unhide HB3⟩
        | true =>
          go_wp2_with fail
          go_ret3
          exact ⟨.inr (.inl ⟨h6, hres.out, rfl⟩), unhide HB3⟩
end Go.Proofs.YtfhaoamlagnpjaaDoor

set_option linter.unusedVariables false
set_option linter.unusedSimpArgs false
namespace Go.Proofs.YtfhaoamlagnpjaaDoor
open Go.RowKit Go.Lib
def KeyR.cs (x : KeyR) : List Value := [.string x.nm, .string x.sc]
def keyCells (xs : List KeyR) : List Value := xs.flatMap KeyR.cs
theorem keyCells_length (xs : List KeyR) : (keyCells xs).length = xs.length * 2 := by
  induction xs with
  | nil => rfl
  | cons x r ih =>
    unfold keyCells at ih ⊢
    rw [List.flatMap_cons, List.length_append, ih, List.length_cons]
    show 2 + _ = _
    omega
theorem keyCells_at (xs : List KeyR) (j i : Nat) (hj : j < xs.length) (hi : i < 2) : (keyCells xs)[j * 2 + i]? = (xs[j].cs)[i]? := by
  induction xs generalizing j with
  | nil => simp at hj
  | cons x r ih =>
    unfold keyCells at ih ⊢
    rw [List.flatMap_cons]
    have hx : x.cs.length = 2 := rfl
    cases j with
    | zero =>
      rw [List.getElem?_append_left (by omega)]
      simp
    | succ j =>
      rw [List.getElem?_append_right (by omega), hx]
      have e : (j + 1) * 2 + i - 2 = j * 2 + i := by omega
      rw [e, ih j (by simpa using hj)]
      rfl
theorem keyCells_app (a b : List KeyR) : keyCells (a ++ b) = keyCells a ++ keyCells b := by unfold keyCells; rw [List.flatMap_append]
def OwnK (w : World) (base : Nat) (v : Value) (xs : List KeyR) : Prop := w.ownsRow base 27 2 v xs.length (keyCells xs)
theorem OwnK.nil (w : World) (base : Nat) : OwnK w base (.slice none 0 0) [] := World.ownsRow_nil w base _ _
theorem OwnK.form {w : World} {base : Nat} {v : Value} {xs : List KeyR} (h : OwnK w base v xs) : (v = .slice none 0 0 ∧ xs = []) ∨ ∃ g cap, v = .slice (some ⟨g, 0, none⟩) xs.length cap ∧ base ≤ g ∧ g < w.heap.size ∧ xs.length ≤ cap := by
  rcases h.2 with ⟨rfl, hn⟩ | ⟨g, cap, cur, rfl, hb, hg, hnc, _⟩
  · exact .inl ⟨rfl, List.eq_nil_of_length_eq_zero hn⟩
  · exact .inr ⟨g, cap, rfl, hb, (Array.getElem?_eq_some_iff.1 hg).1, hnc⟩
theorem OwnK.some {w : World} {base : Nat} {v : Value} {xs : List KeyR} (h : OwnK w base v xs) (hne : xs ≠ []) : ∃ g cap, v = .slice (some ⟨g, 0, none⟩) xs.length cap ∧ base ≤ g ∧ g < w.heap.size ∧ xs.length ≤ cap := by
  rcases h.form with ⟨_, he⟩ | h
  · exact absurd he hne
  · exact h
theorem OwnK.below {w w' : World} {base : Nat} {v : Value} {xs : List KeyR} (h : OwnK w base v xs) (hb : Below w.heap.size w w') : OwnK w' base v xs :=
  World.ownsRow.kept h (only_of_below hb none) (by cases hv : v.ownBlock <;> simp)
theorem OwnK.alloc {w : World} {base : Nat} {v : Value} {xs : List KeyR} (h : OwnK w base v xs) (o : Obj) : OwnK (w.alloc o) base v xs := World.ownsRow.alloc h o
theorem OwnK.drewN {w : World} {base : Nat} {v : Value} {xs : List KeyR} (h : OwnK w base v xs) (n : Nat) : OwnK (w.drewN n) base v xs := h
theorem OwnK.lt {w : World} {base : Nat} {v : Value} {xs : List KeyR} (h : OwnK w base v xs) : ∀ k, v.ownBlock = Option.some k → base ≤ k ∧ k < w.heap.size := World.ownsRow.lt h
theorem OwnK.cell {w : World} {base g n cap : Nat} {xs : List KeyR} (h : OwnK w base (.slice (Option.some ⟨g, 0, Option.none⟩) n cap) xs) (j i : Nat) (hj : j < xs.length) (hi : i < 2) : w.cell? ⟨g, j * 2 + i, Option.none⟩ = (xs[j].cs)[i]? := by
  have hn : n = xs.length := by
    rcases h.form with ⟨hv, he⟩ | ⟨g', cap', hv, _⟩
    · cases hv
    · injection hv
  subst hn
  rw [World.ownsRow.cellAt h (j * 2 + i) (by omega)]
  exact keyCells_at xs j i hj hi
theorem OwnK.keys {w : World} {base g n cap : Nat} {xs : List KeyR} (h : OwnK w base (.slice (Option.some ⟨g, 0, Option.none⟩) n cap) xs) (m c : Nat) (hm : m ≤ xs.length) : KeysAt w (.slice (Option.some ⟨g, 0, Option.none⟩) m c) (xs.take m) := by
  refine ⟨Option.some ⟨g, 0, Option.none⟩, c, by rw [List.length_take, Nat.min_eq_left hm], fun j hj => ⟨_, rfl, ?_, ?_⟩⟩
  all_goals rw [List.length_take] at hj
  · have hadd : (⟨g, 0, Option.none⟩ : Addr).add (j * 2) = ⟨g, j * 2, Option.none⟩ := by unfold Addr.add; split <;> simp_all
    rw [hadd, List.getElem_take]
    exact h.cell j 0 (by omega) (by omega)
  · have hadd : (⟨g, 0, Option.none⟩ : Addr).add (j * 2 + 1) = ⟨g, j * 2 + 1, Option.none⟩ := by unfold Addr.add; split <;> simp_all
    rw [hadd, List.getElem_take]
    exact h.cell j 1 (by omega) (by omega)
theorem OwnK.store {w : World} {base g n cap : Nat} {xs : List KeyR} (h : OwnK w base (.slice (Option.some ⟨g, 0, Option.none⟩) n cap) xs) (x : ByteArray) (k : KeyR) (r : List KeyR) (hx : xs = k :: r) : OwnK (w.setCell ⟨g, 0, Option.none⟩ (.string x)) base (.slice (Option.some ⟨g, 0, Option.none⟩) n cap) (⟨x, k.sc⟩ :: r) := by
  have hl : n = xs.length := by
    rcases h.form with ⟨hv, he⟩ | ⟨g', cap', hv, _⟩
    · cases hv
    · injection hv
  subst hl
  subst hx
  have hs := (World.ownsRow.stored h 0 (.string x)).1
  exact hs
theorem keyInfo : (Tryd.prog.info? 27).map (fun i => (i.zero, i.size, i.bytes)) = Option.some (Option.some (.agg #[.string ⟨#[]⟩, .string ⟨#[]⟩]), 2, 32) := by kernel_rfl
theorem KeysAt.reads {w : World} {A : Option Addr} {m c : Nat} {ks : List KeyR} (h : KeysAt w (.slice A m c) ks) : m = ks.length ∧ Reads w w.heap.size 2 A m (keyCells ks) := by
  obtain ⟨A', c', hv, hc⟩ := h
  injection hv with e1 e2 e3
  subst e1 e2 e3
  refine ⟨rfl, keyCells_length ks, fun h0 => ?_⟩
  obtain ⟨a, rfl, h1, -⟩ := hc 0 h0
  have hb := World.block_lt_of_cell? w _ h1
  rw [block_of_add] at hb
  refine ⟨a, rfl, hb, fun j u hu => ?_⟩
  have hjl : j < (keyCells ks).length := (List.getElem?_eq_some_iff.1 hu).1
  rw [keyCells_length] at hjl
  have ej : j = j / 2 * 2 + j % 2 := by omega
  have hj2 : j / 2 < ks.length := by omega
  obtain ⟨a', ha, h2, h3⟩ := hc (j / 2) hj2
  injection ha with ha
  subst ha
  rw [ej, keyCells_at ks (j / 2) (j % 2) hj2 (by omega)] at hu
  rcases Nat.mod_two_eq_zero_or_one j with h01 | h01
  · rw [h01] at hu
    rw [ej, h01]
    rw [show j / 2 * 2 + 0 = j / 2 * 2 from rfl, h2]
    exact hu
  · rw [h01] at hu
    rw [ej, h01, h3]
    exact hu
theorem key_one (xs : List KeyR) : ∀ u ∈ keyCells xs, u.oneCell' = true := by
  intro u hu
  unfold keyCells at hu
  obtain ⟨x, -, hx⟩ := List.mem_flatMap.1 hu
  simp [KeyR.cs] at hx
  rcases hx with rfl | rfl <;> rfl
/-- append(v, x...) of keys. -/
theorem wpList_appK {ops : Array Oper} {rest : List Oper} {o : Oper} {a : Act} {Q : Exit → Act → World → Prop} (w : World) (hgd : o.guard = Option.none) (s x : Operand)
    (ho : o.op = .call { callee := .builtin .append, args := #[s, x], argTypes := #[45, 45] })
    {base : Nat} {v : Value} {es : List KeyR} (hown : OwnK w base v es) (hs : a.eval s = v) {A : Option Addr} {m c : Nat} {es2 : List KeyR} (hr : KeysAt w (.slice A m c) es2) (hx : a.eval x = .slice A m c)
    (h47 : es.length + es2.length ≤ 1099511627776) (hbase : base ≤ w.heap.size)
    (h : ∀ v' w', OwnK w' base v' (es ++ es2) → w.grownBy w' v.ownBlock → (v'.ownBlock = v.ownBlock ∨ v'.ownBlock = Option.some w.heap.size) → wpList Tryd.prog ops Q rest (a.put o.dst v') w') : wpList Tryd.prog ops Q (o :: rest) a w := by
  obtain ⟨i, hi, hz, hs1, hb1⟩ := info_parts keyInfo
  obtain ⟨hm, hrd⟩ := hr.reads
  refine wpList_append_any (w := w) hgd s x 45 ho base 27 i _ 2 32 Tryd.underlying45 hi hz hs1 hb1 rfl (by decide) v es.length (keyCells es) hs hown w.heap.size A m c (keyCells es2) hx hrd (key_one _) ?_ ?_ hbase ?_
  · simp only [maxLen]; omega
  · omega
  · intro v' w' h1 h2 h3
    refine h v' w' ?_ h2 h3
    unfold OwnK
    rw [keyCells_app, List.length_append, ← hm]
    exact h1
/-- append(v, x), x one key in a new block of its own. -/
theorem wpList_appK1 {ops : Array Oper} {rest : List Oper} {o : Oper} {a : Act} {Q : Exit → Act → World → Prop} (w : World) (hgd : o.guard = Option.none) (s x : Operand)
    (ho : o.op = .call { callee := .builtin .append, args := #[s, x], argTypes := #[45, 45] })
    {base : Nat} {v : Value} {es : List KeyR} (hown : OwnK w base v es) (hs : a.eval s = v) {y : KeyR} (hx : a.eval x = .slice (Option.some ⟨w.heap.size, 0, Option.none⟩) 1 1)
    (h47 : es.length + 1 ≤ 1099511627776) (hbase : base ≤ w.heap.size)
    (h : ∀ v' w', OwnK w' base v' (es ++ [y]) → (w.alloc (.cells #[.string y.nm, .string y.sc] 27)).grownBy w' v.ownBlock → (v'.ownBlock = v.ownBlock ∨ v'.ownBlock = Option.some (w.heap.size + 1)) → wpList Tryd.prog ops Q rest (a.put o.dst v') w') :
    wpList Tryd.prog ops Q (o :: rest) a (w.alloc (.cells #[.string y.nm, .string y.sc] 27)) := by
  refine wpList_appK _ hgd s x ho (hown.alloc _) hs (es2 := [y]) ⟨Option.some ⟨w.heap.size, 0, Option.none⟩, 1, rfl, fun j hj => ⟨_, rfl, ?_, ?_⟩⟩ hx (by simpa using h47) (by simp; omega) (fun v' w' h1 h2 h3 => h v' w' h1 h2 (by simpa using h3))
  all_goals obtain rfl : j = 0 := by simp at hj; exact hj
  · have hadd : (⟨w.heap.size, 0, Option.none⟩ : Addr).add (0 * 2) = ⟨w.heap.size, 0, Option.none⟩ := by unfold Addr.add; simp
    rw [hadd, (Blk.new w 27 #[.string y.nm, .string y.sc]).cell 0]
    rfl
  · have hadd : (⟨w.heap.size, 0, Option.none⟩ : Addr).add (0 * 2 + 1) = ⟨w.heap.size, 1, Option.none⟩ := by unfold Addr.add; simp
    rw [hadd, (Blk.new w 27 #[.string y.nm, .string y.sc]).cell 1]
    rfl
end Go.Proofs.YtfhaoamlagnpjaaDoor

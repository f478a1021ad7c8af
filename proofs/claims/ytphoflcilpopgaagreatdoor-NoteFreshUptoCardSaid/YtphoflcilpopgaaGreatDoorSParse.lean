/-
  CONTRACT of note.Parse.
-/
import Derived.Test.YtphoflcilpopgaaGreatDoorRows
import Derived.Laws.ResultCell
import Derived.Laws.Rows
import Derived.StillTailTactics
import Derived.Deep.RegionHeld3
import Derived.Test.YtphoflcilpopgaaGreatDoorGBase
import Derived.Test.YtphoflcilpopgaaGreatDoorSShelf
import Derived.Test.YtphoflcilpopgaaGreatDoorGLns
import Derived.Test.YtphoflcilpopgaaGreatDoorGDecs
import Derived.Test.YtphoflcilpopgaaGreatDoorSDigs
import Derived.Test.YtphoflcilpopgaaGreatDoorGTx
set_option linter.unusedVariables false
set_option linter.unusedSimpArgs false
namespace Go.Proofs.YtphoflcilpopgaaGreatDoor
open Go.RowKit Go.Lib
/-- A checkpoint as its parts. -/
structure Pt where
  o : ByteArray
  n : Int
  r : ByteArray
  es : List ByteArray
/-- What Parse reads. -/
def ParseR (s : ByteArray) (q : Pt) : Prop := ∃ d r, linesV s = some (q.o :: d :: r :: q.es) ∧ undV d = some q.n ∧ unb64V r = some q.r ∧ textV q.o q.n q.r q.es = .tuple #[.string s, .int .i64 0]
theorem ParseR.one {s : ByteArray} {p q : Pt} (hp : ParseR s p) (hq : ParseR s q) : p = q := by
  obtain ⟨d, r, h1, h2, h3, -⟩ := hp
  obtain ⟨d', r', k1, k2, k3, -⟩ := hq
  rw [h1] at k1
  injection k1 with k1
  injection k1 with e1 k1
  injection k1 with e2 k1
  injection k1 with e3 e4
  subst e2 e3
  rw [h2] at k2
  rw [h3] at k3
  injection k2 with k2
  injection k3 with k3
  cases p; cases q
  simp at *
  exact ⟨e1, k2, k3, e4⟩
def PointAt (base : Nat) (w : World) (u : Value) (q : Pt) : Prop := ∃ v, u = .agg #[.string q.o, .int .i64 q.n, .string q.r, v] ∧ OwnT w base v q.es
def noPt : Value := .agg #[.string ⟨#[]⟩, .int .i64 0, .string ⟨#[]⟩, .slice none 0 0]
/-- What Parse answers. -/
def ParseA (base : Nat) (s : ByteArray) (u : Value) (z : Nat) (w : World) : Prop := (∃ q, ParseR s q ∧ z = 0 ∧ PointAt base w u q) ∨ ((∀ q, ¬ ParseR s q) ∧ z = 204 ∧ u = noPt)
theorem results_cp {fn : Func} {p u : Tmp} (h : fn.results = #[.cell p 30, .tmp u]) (tmps : Array Value) (w : World) (g : Nat) (a b c d : Value) (hp : tmps.getD p undef = .pointer (some ⟨g, 0, none⟩)) (hB : Blk w g 30 #[a, b, c, d]) :
    (results fn tmps).run Tryz.prog w = .ok (.tuple #[.agg #[a, b, c, d], tmps.getD u undef]) w := by
  rw [results_cell_tmp h, hp]
  have hl := run_loadVar_row (P := Tryz.prog) w g 30 30 #[a, b, c, d] (0, 0) _ hB Tryz.underlying30 rfl (by kernel_rfl)
  simp [asAddr, hl, Result.andThen]
theorem undA_form (d : ByteArray) : ∃ (n : Int) (z : Nat), undA d = .tuple #[.int .i64 n, .int .i64 z] ∧ ((z = 0 ∧ undV d = some n) ∨ (z = 42 ∧ undV d = none)) := by
  cases h : undV d with
  | none => exact ⟨0, 42, undA_none h, .inr ⟨rfl, rfl⟩⟩
  | some n => exact ⟨n, 0, undA_some h, .inl ⟨rfl, rfl⟩⟩
theorem unbA_form (r : ByteArray) : ∃ (x : ByteArray) (z : Nat), unbA r = .tuple #[.string x, .int .i64 z] ∧ x.size ≤ r.size ∧ ((z = 0 ∧ unb64V r = some x) ∨ (z = 40 ∧ unb64V r = none)) := by
  cases h : unb64V r with
  | none => exact ⟨⟨#[]⟩, 40, unbA_none h, Nat.zero_le _, .inr ⟨rfl, rfl⟩⟩
  | some x =>
    have := b64S_size x
    rw [unb64V_some h] at this
    exact ⟨x, 0, unbA_some h, by omega, .inl ⟨rfl, rfl⟩⟩
theorem OwnT.tail {w : World} {base g n cap : Nat} {es : List ByteArray} (h : OwnT w base (.slice (some ⟨g, 0, none⟩) n cap) es) (k c : Nat) (hk : k ≤ es.length) : StrsAt w (.slice (some ⟨g, k, none⟩) (es.length - k) c) (es.drop k) := by
  refine ⟨some ⟨g, k, none⟩, c, by rw [List.length_drop], fun j hj => ⟨_, rfl, ?_⟩⟩
  have hadd : (⟨g, k, none⟩ : Addr).add j = ⟨g, k + j, none⟩ := by unfold Addr.add; split <;> simp_all
  rw [List.length_drop] at hj
  rw [hadd, h.cell (k + j) (by omega)]
  simp
theorem OwnT.slice {w : World} {base : Nat} {v : Value} {es : List ByteArray} (h : OwnT w base v es) : ∃ A c, v = .slice A es.length c := by
  rcases h.form with ⟨hv, he⟩ | ⟨g, cap, hv, -⟩
  · exact ⟨none, 0, by rw [hv, he]; rfl⟩
  · exact ⟨_, cap, hv⟩
theorem OwnT.mono {w : World} {base base' : Nat} {v : Value} {es : List ByteArray} (h : OwnT w base v es) (hb : base' ≤ base) : OwnT w base' v es := by
  refine ⟨h.1, ?_⟩
  rcases h.2 with h2 | ⟨g, cap, cur, h1, h2, h3⟩
  · exact .inl h2
  · exact .inr ⟨g, cap, cur, h1, by omega, h3⟩
theorem OwnT.far {w : World} {base : Nat} {v : Value} {es : List ByteArray} (h : OwnT w base v es) {p : Addr} (hp : p.block < base) (u : Value) : OwnT (w.setCell p u) base v es := by
  have hne : v.ownBlock ≠ some p.block := fun e => by have := (World.ownsRow.lt h _ e).1; omega
  have hb : Below 0 w (w.setCell p u) := (Below.refl _ _).setCell (Nat.zero_le _) u
  exact World.ownsRow.kept h (row := some p.block) ⟨hb.os, hb.tape, hb.output, hb.size, fun k hk hk2 => Below.heap_setCell _ _ _ _ (fun e => hk2 (by rw [e]))⟩ (.inr hne)
theorem OwnT.toStrs {w : World} {base : Nat} {v : Value} {es : List ByteArray} (h : OwnT w base v es) : StrsAt w v es := by
  rcases h.form with ⟨rfl, rfl⟩ | ⟨g, cap, rfl, -⟩
  · exact ⟨none, 0, rfl, fun j hj => absurd hj (by simp)⟩
  · have h2 := h.strs es.length cap (Nat.le_refl _)
    rwa [List.take_of_length_le (Nat.le_refl _)] at h2
/-- slices.Clone of texts. -/
theorem clone_any (g off n c : Nat) (es : List ByteArray) (w : World) (hS : StrsAt w (.slice (some ⟨g, off, none⟩) n c) es) (hn : n ≤ 1099511627776) :
    Calls Tryz.prog 26 #[.slice (some ⟨g, off, none⟩) n c] w fun e w' => ∃ v, e = .returned v ∧ OwnT w' w.heap.size v es ∧ Below w.heap.size w w' := by
  obtain ⟨A, c', hv, hc⟩ := hS
  injection hv with e1 e2 e3
  subst e1 e2 e3
  refine (Tryz.slices_Clone_string g off es.length c es w (Nat.le_refl _) (by omega) (fun j hj => ?_)).mono ?_
  · obtain ⟨a, ha, h1⟩ := hc j hj
    injection ha with ha
    subst ha
    have hadd : (⟨g, off, none⟩ : Addr).add j = ⟨g, off + j, none⟩ := by unfold Addr.add; split <;> simp_all
    rw [hadd] at h1
    rw [h1]
    simp [hj]
  · rintro e w' ⟨v, rfl, h1, _, h3⟩
    refine ⟨v, rfl, ?_, h3⟩
    rw [List.take_of_length_le (Nat.le_refl _)] at h1
    exact h1
theorem clone_tail (g cap : Nat) (o d r : ByteArray) (es : List ByteArray) (base : Nat) (w : World) (hO : OwnT w base (.slice (some ⟨g, 0, none⟩) (es.length + 3) cap) (o :: d :: r :: es)) (hcap : es.length + 3 ≤ cap) (hn : es.length ≤ 1099511627776) :
    Calls Tryz.prog 26 #[.slice (if cap = 3 then some ⟨g, 0, none⟩ else some ⟨g, 3, none⟩) es.length (cap - 3)] w fun e w' => ∃ v, e = .returned v ∧ OwnT w' w.heap.size v es ∧ Below w.heap.size w w' := by
  split
  · obtain rfl : es = [] := List.eq_nil_of_length_eq_zero (by omega)
    exact clone_any g 0 0 (cap - 3) [] w ⟨_, _, rfl, fun j hj => absurd hj (by simp)⟩ (by omega)
  · have h := hO.tail 3 (cap - 3) (by simp)
    exact clone_any g 3 es.length (cap - 3) es w (by simpa using h) hn
theorem linesV_len {s : ByteArray} {l : List ByteArray} (h : linesV s = some l) : (linesL l).length = s.size := by
  have hll : s.data.toList.length = s.size := Array.length_toList
  unfold linesV at h
  split at h
  · injection h with h
    subst h
    rename_i h0
    rw [h0]; rfl
  · split at h
    · injection h with h
      subst h
      rename_i h1 h2
      obtain ⟨r, hr⟩ := List.getLast?_eq_some_iff.1 h2
      have hj := splL_join 10 s.data.toList.dropLast
      have e : linesL ((splL 10 s.data.toList.dropLast).map bsL) = (splL 10 s.data.toList.dropLast).flatMap (fun x => x ++ [10]) := by
        unfold linesL
        rw [List.flatMap_map]
        rfl
      rw [e, hj, List.length_append, List.length_dropLast, hll]
      simp
      omega
    · cases h
theorem linesL_cons (x : ByteArray) (l : List ByteArray) : (linesL (x :: l)).length = x.size + 1 + (linesL l).length := by
  have hx : x.data.size = x.size := rfl
  simp [linesL]
  omega
theorem blk4_store {w : World} {g : Nat} {t : TypeId} {a b c d : Value} (h : Blk w g t #[a, b, c, d]) (a' b' c' d' : Value) : Blk ((((w.setCell ⟨g, 0, none⟩ a').setCell ⟨g, 1, none⟩ b').setCell ⟨g, 2, none⟩ c').setCell ⟨g, 3, none⟩ d') g t #[a', b', c', d'] := by
  have h2 := (((h.set_ 0 a').set_ 1 b').set_ 2 c').set_ 3 d'
  simpa using h2
theorem below4_store {B : Nat} {a w : World} {g : Nat} (h : Below B a w) (hg : B ≤ g) (a' b' c' d' : Value) : Below B a ((((w.setCell ⟨g, 0, none⟩ a').setCell ⟨g, 1, none⟩ b').setCell ⟨g, 2, none⟩ c').setCell ⟨g, 3, none⟩ d') :=
  (((h.setCell (p := ⟨g, 0, none⟩) hg a').setCell (p := ⟨g, 1, none⟩) hg b').setCell (p := ⟨g, 2, none⟩) hg c').setCell (p := ⟨g, 3, none⟩) hg d'
set_option maxRecDepth 100000 in
set_option maxHeartbeats 4000000 in
theorem parse_any (s : ByteArray) (w : World) (hs : s.size ≤ 1099511627776) (hT : Lib.Utf8Tabs 5 6 w) :
    Calls Tryz.prog 7 #[.string s] w fun e w' => ∃ u z, e = .returned (.tuple #[u, .int .i64 (z : Nat)]) ∧ ParseA w.heap.size s u z w' ∧ Below w.heap.size w w' := by
  have HT := hide hT; clear hT
  have hli := fun W => lines_any s W hs
  have HLI := hide hli; clear hli
  go_enter Tryz.func7, Tryz.ntmps7
  go_wp2_with fail
  refine (unhide HLI _).mono ?_
  rintro e w1 ⟨v, rfl, hA, hb1⟩
  have hw1 : Below w.heap.size w w1 := ((Below.refl _ _).alloc (Nat.le_refl _) _).trans (hb1.mono (by simp))
  have hP1 : Blk w1 w.heap.size 30 #[.string ⟨#[]⟩, .int .i64 0, .string ⟨#[]⟩, .slice none 0 0] := (Blk.new w _ _).below hb1 (by simp)
  rcases hA.get with ⟨l, u, hl, rfl, hO⟩ | ⟨hl, rfl⟩
  · rcases Nat.lt_or_ge l.length 3 with h3 | h3
    · have hno : Hid (∀ q, ¬ ParseR s q) := by
        rintro q ⟨d, r, h, -⟩
        rw [hl] at h
        injection h with h
        rw [h] at h3
        simp at h3
        omega
      have hlen : ∃ A c, u = .slice A l.length c := by
        rcases hO.form with ⟨hv, he⟩ | ⟨g, cap, hv, -⟩
        · exact ⟨none, 0, by rw [hv, he]; rfl⟩
        · exact ⟨_, cap, hv⟩
      obtain ⟨A, c, rfl⟩ := hlen
      have h3' : (l.length : Int) < 3 := by omega
      have H1 := hide (And.intro hw1 hP1); clear hw1 hP1 hA hb1 hl hO
      have k0 := (unhide H1).2.cell 0; have k1 := (unhide H1).2.cell 1; have k2 := (unhide H1).2.cell 2; have k3 := (unhide H1).2.cell 3
      have f0 := (unhide H1).2.frozen 0; have f1 := (unhide H1).2.frozen 1; have f2 := (unhide H1).2.frozen 2; have f3 := (unhide H1).2.frozen 3
      simp only [List.getElem?_toArray, List.getElem?_cons_zero, List.getElem?_cons_succ] at k0 k1 k2 k3
      go_wp2_with fail
      (try simp only [Exit.inBlock, Exit.then])
      refine bodyPost_ret (results_cp rfl _ _ w.heap.size _ _ _ _ rfl (blk4_store (unhide H1).2 _ _ _ _)) rfl ?_
      exact ⟨_, 204, rfl, .inr ⟨hno.out, rfl, rfl⟩, below4_store (unhide H1).1 (Nat.le_refl _) _ _ _ _⟩
    · obtain ⟨o, d, r, es, rfl⟩ : ∃ o d r es, l = o :: d :: r :: es := by
        match l, h3 with
        | o :: d :: r :: es, _ => exact ⟨o, d, r, es, rfl⟩
      obtain ⟨g, cap, rfl, hgb, hgl, hcap⟩ : ∃ g cap, u = .slice (some ⟨g, 0, none⟩) (o :: d :: r :: es).length cap ∧ w.heap.size + 1 ≤ g ∧ g < w1.heap.size ∧ (o :: d :: r :: es).length ≤ cap := by
        rcases hO.form with ⟨_, he⟩ | ⟨g, cap, hv, h1, h2, h4⟩
        · cases he
        · exact ⟨g, cap, hv, by simpa using h1, h2, h4⟩
      have c0 := hO.cell 0 (by simp)
      have c1 := hO.cell 1 (by simp)
      have c2 := hO.cell 2 (by simp)
      simp only [List.getElem_cons_zero, List.getElem_cons_succ] at c0 c1 c2
      have hlen := linesV_len hl
      rw [linesL_cons, linesL_cons, linesL_cons] at hlen
      have hd := fun W => undec_any d W (by omega)
      have hr := fun W => unb_any r W (by omega)
      simp only [List.length_cons] at hcap
      have hcap' : es.length + 3 ≤ cap := by omega
      have HD := hide hd; have HR := hide hr; clear hd hr hcap
      have H1 := hide (And.intro hw1 (And.intro hP1 (And.intro hO hl))); clear hw1 hP1 hA hb1 hl hO h3
      rw [show (o :: d :: r :: es).length = es.length + 3 from rfl] at *
      go_wp2_with fail
      obtain ⟨n, zd, hud, hzd⟩ := undA_form d
      obtain ⟨x, zr, hub, hxr, hzr⟩ := unbA_form r
      rw [hud] at HD
      rw [hub] at HR
      have hzd0 : zd = 0 ∨ zd = 42 := hzd.elim (fun h => .inl h.1) (fun h => .inr h.1)
      have hzr0 : zr = 0 ∨ zr = 40 := hzr.elim (fun h => .inl h.1) (fun h => .inr h.1)
      refine (unhide HD _).mono ?_
      rintro e w2 ⟨rfl, hb2⟩
      have hw2 := (unhide H1).1.trans (hb2.mono (unhide H1).1.size)
      have hO2 := (unhide H1).2.2.1.below hb2
      have c22 := hO2.cell 2 (by simp)
      simp only [List.getElem_cons_zero, List.getElem_cons_succ] at c22
      have hP2 := (unhide H1).2.1.below hb2 (unhide H1).2.1.lt
      have H2 := hide (And.intro hw2 (And.intro hO2 hP2)); clear hw2 hO2 hP2 hb2 c0 c1 c2
      go_wp2_with fail
      refine (unhide HR _).mono ?_
      rintro e w3 ⟨rfl, hb3⟩
      have hw3 := (unhide H2).1.trans (hb3.mono (unhide H2).1.size)
      have hO3 := (unhide H2).2.1.below hb3
      have c30 := hO3.cell 0 (by simp)
      simp only [List.getElem_cons_zero] at c30
      have hP3 := (unhide H2).2.2.below hb3 (unhide H2).2.2.lt
      have hcl := fun W (hO : OwnT W (w.alloc (.cells #[.string ⟨#[]⟩, .int .i64 0, .string ⟨#[]⟩, .slice none 0 0] 30)).heap.size (.slice (some ⟨g, 0, none⟩) (es.length + 3) cap) (o :: d :: r :: es)) => clone_tail g cap o d r es _ W hO hcap' (by have := linesL_ge es; omega)
      obtain ⟨P0, hif⟩ : ∃ P0, (if cap = 3 then some (⟨g, 0, none⟩ : Addr) else some ⟨g, 3, none⟩) = P0 := ⟨_, rfl⟩
      rw [hif] at hcl
      have HCL := hide hcl; clear hcl
      have H3 := hide (And.intro hw3 (And.intro hO3 hP3)); clear hw3 hO3 hP3 hb3 c22
      go_wp2_with fail
      have hc3 : (3 : Int) ≤ (cap : Int) := by omega
      have hi0 : (0 : Int) < (es.length : Int) + 3 := by omega
      have hi3 : (3 : Int) ≤ (es.length : Int) + 3 := by omega
      have hi4 : (es.length : Int) + 3 ≤ (cap : Int) := by omega
      have hi5 : ((es.length + 3 : Nat) : Int) = (es.length : Int) + 3 := by omega
      have m3 := World.new_ne w3 _ c30
      go_region_held3 (fun W => W.cell? ⟨g, 0, none⟩ = some (.string o)) (first | assumption | go_keep) (first | (go_at_call 26; first | (refine (unhide HCL _ (unhide H3).2.1.drew).mono ?_; rintro e w4 ⟨v, rfl, hO4, hb4⟩; obtain ⟨A4, cc4, rfl⟩ := hO4.slice; have c40 : w4.cell? ⟨g, 0, none⟩ = some (.string o) := by { have h := ((unhide H3).2.1.drew.below hb4).cell 0 (by simp); simpa using h }; have m4 := World.new_ne w4 _ c40) | (refine (unhide HCL _ ((unhide H3).2.1.alloc (.cells #[.string ⟨#[]⟩, .int .i64 0, .string ⟨#[]⟩, .slice none 0 0] 30)).drew).mono ?_; rintro e w4 ⟨v, rfl, hO4, hb4⟩; obtain ⟨A4, cc4, rfl⟩ := hO4.slice; have c40 : w4.cell? ⟨g, 0, none⟩ = some (.string o) := by { have h := (((unhide H3).2.1.alloc (.cells #[.string ⟨#[]⟩, .int .i64 0, .string ⟨#[]⟩, .slice none 0 0] 30)).drew.below hb4).cell 0 (by simp); simpa using h }; have hN4 : Blk w4 w3.heap.size 30 #[.string ⟨#[]⟩, .int .i64 0, .string ⟨#[]⟩, .slice none 0 0] := ((Blk.new w3 _ _).drew).below hb4 (by simp); have k0 := hN4.cell 0; have k1 := hN4.cell 1; have k2 := hN4.cell 2; have k3 := hN4.cell 3; have f0 := hN4.frozen 0; have f1 := hN4.frozen 1; have f2 := hN4.frozen 2; have f3 := hN4.frozen 3; simp only [List.getElem?_toArray, List.getElem?_cons_zero, List.getElem?_cons_succ] at k0 k1 k2 k3)))
      all_goals (
        have hlt := (unhide H3).2.2.lt
        have hsz := (unhide H3).1.size
        first
          | (have HF : Hid (Below w.heap.size w (w4.alloc (.cells #[.string o, .int .i64 n, .string x, .slice A4 es.length cc4] 30)) ∧ Blk (w4.alloc (.cells #[.string o, .int .i64 n, .string x, .slice A4 es.length cc4] 30)) w4.heap.size 30 #[.string o, .int .i64 n, .string x, .slice A4 es.length cc4] ∧ OwnT (w4.alloc (.cells #[.string o, .int .i64 n, .string x, .slice A4 es.length cc4] 30)) (w.heap.size + 1) (.slice A4 es.length cc4) es ∧ Blk (w4.alloc (.cells #[.string o, .int .i64 n, .string x, .slice A4 es.length cc4] 30)) w.heap.size 30 #[.string ⟨#[]⟩, .int .i64 0, .string ⟨#[]⟩, .slice none 0 0]) := ⟨((unhide H3).1.drew.trans (hb4.mono hsz)).alloc (by have := hb4.size; have h2 : w.heap.size ≤ w3.drew.heap.size := hsz; omega) _, Blk.new w4 _ _, ((hO4.alloc _).mono (by show w.heap.size + 1 ≤ w3.heap.size; omega)), (((unhide H3).2.2.drew.below hb4 hlt).alloc _)⟩
             clear m4 hb4 hO4 c40
             generalize (w4.alloc (.cells #[.string o, .int .i64 n, .string x, .slice A4 es.length cc4] 30)) = W at *
             generalize w4.heap.size = gp at *)
          | (have hs4 : w.heap.size ≤ (w3.alloc (.cells #[.string ⟨#[]⟩, .int .i64 0, .string ⟨#[]⟩, .slice none 0 0] 30)).drew.heap.size := by { show w.heap.size ≤ (w3.alloc (.cells #[.string ⟨#[]⟩, .int .i64 0, .string ⟨#[]⟩, .slice none 0 0] 30)).heap.size; simp; omega }
             have hb0 := ((unhide H3).1.alloc hsz (.cells #[.string ⟨#[]⟩, .int .i64 0, .string ⟨#[]⟩, .slice none 0 0] 30)).drew.trans (hb4.mono hs4)
             have hs5 : w3.heap.size < (w3.alloc (.cells #[.string ⟨#[]⟩, .int .i64 0, .string ⟨#[]⟩, .slice none 0 0] 30)).drew.heap.size := by { show w3.heap.size < (w3.alloc (.cells #[.string ⟨#[]⟩, .int .i64 0, .string ⟨#[]⟩, .slice none 0 0] 30)).heap.size; simp }
             have h5 := ((unhide H3).2.2.alloc (.cells #[.string ⟨#[]⟩, .int .i64 0, .string ⟨#[]⟩, .slice none 0 0] 30)).drew.below hb4 (by omega)
             have hn : w.heap.size ≠ w3.heap.size := by omega
             have HF : Hid (Below w.heap.size w ((((w4.setCell ⟨w3.heap.size, 0, none⟩ (.string o)).setCell ⟨w3.heap.size, 1, none⟩ (.int .i64 n)).setCell ⟨w3.heap.size, 2, none⟩ (.string x)).setCell ⟨w3.heap.size, 3, none⟩ (.slice A4 es.length cc4)) ∧ Blk ((((w4.setCell ⟨w3.heap.size, 0, none⟩ (.string o)).setCell ⟨w3.heap.size, 1, none⟩ (.int .i64 n)).setCell ⟨w3.heap.size, 2, none⟩ (.string x)).setCell ⟨w3.heap.size, 3, none⟩ (.slice A4 es.length cc4)) w3.heap.size 30 #[.string o, .int .i64 n, .string x, .slice A4 es.length cc4] ∧ OwnT ((((w4.setCell ⟨w3.heap.size, 0, none⟩ (.string o)).setCell ⟨w3.heap.size, 1, none⟩ (.int .i64 n)).setCell ⟨w3.heap.size, 2, none⟩ (.string x)).setCell ⟨w3.heap.size, 3, none⟩ (.slice A4 es.length cc4)) (w.heap.size + 1) (.slice A4 es.length cc4) es ∧ Blk ((((w4.setCell ⟨w3.heap.size, 0, none⟩ (.string o)).setCell ⟨w3.heap.size, 1, none⟩ (.int .i64 n)).setCell ⟨w3.heap.size, 2, none⟩ (.string x)).setCell ⟨w3.heap.size, 3, none⟩ (.slice A4 es.length cc4)) w.heap.size 30 #[.string ⟨#[]⟩, .int .i64 0, .string ⟨#[]⟩, .slice none 0 0]) := ⟨below4_store hb0 hsz _ _ _ _, blk4_store hN4 _ _ _ _, ((((hO4.far (p := ⟨w3.heap.size, 0, none⟩) hs5 _).far (p := ⟨w3.heap.size, 1, none⟩) hs5 _).far (p := ⟨w3.heap.size, 2, none⟩) hs5 _).far (p := ⟨w3.heap.size, 3, none⟩) hs5 _).mono (by show w.heap.size + 1 ≤ (w3.alloc (.cells #[.string ⟨#[]⟩, .int .i64 0, .string ⟨#[]⟩, .slice none 0 0] 30)).heap.size; simp; omega), (((h5.far (p := ⟨w3.heap.size, 0, none⟩) hn _).far (p := ⟨w3.heap.size, 1, none⟩) hn _).far (p := ⟨w3.heap.size, 2, none⟩) hn _).far (p := ⟨w3.heap.size, 3, none⟩) hn _⟩
             clear hb4 hO4 c40 hN4 k0 k1 k2 k3 f0 f1 f2 f3 hs4 hb0 hs5 h5 hn
             generalize ((((w4.setCell ⟨w3.heap.size, 0, none⟩ (.string o)).setCell ⟨w3.heap.size, 1, none⟩ (.int .i64 n)).setCell ⟨w3.heap.size, 2, none⟩ (.string x)).setCell ⟨w3.heap.size, 3, none⟩ (.slice A4 es.length cc4)) = W at *
             generalize w3.heap.size = gp at *)
        have k0 := (unhide HF).2.1.cell 0; have k1 := (unhide HF).2.1.cell 1; have k2 := (unhide HF).2.1.cell 2; have k3 := (unhide HF).2.1.cell 3
        simp only [List.getElem?_toArray, List.getElem?_cons_zero, List.getElem?_cons_succ] at k0 k1 k2 k3
        have hcall := noteTx_any o x n _ es W (by omega) (by omega) (by omega) (unhide HF).2.2.1.toStrs (Tabs.below (unhide HT) (unhide HF).1 (Tabs.lt3 (unhide HT)) (Tabs.lt4 (unhide HT)))
        obtain ⟨tx, tz, htv, htz⟩ := textV_form o n x es
        rw [htv] at hcall
        have HTV := Lib.hid htv; have HC := hide hcall; clear htv hcall
        clear hi0 hi3 hi4 hi5 hc3 hlt hsz
        go_wp2_with fail
        refine (unhide HC).mono ?_
        rintro e w5 ⟨rfl, hb5⟩
        have H5 := hide (And.intro ((unhide HF).1.trans (hb5.mono (unhide HF).1.size)) (And.intro ((unhide HF).2.1.below hb5 (unhide HF).2.1.lt) (And.intro ((unhide HF).2.2.1.below hb5) (And.intro ((unhide HF).2.2.2.below hb5 (unhide HF).2.2.2.lt) trivial))))
        have hbad : ∀ n' x', undV d = some n' → unb64V r = some x' → textV o n' x' es = .tuple #[.string s, .int .i64 0] → zd = 0 ∧ zr = 0 ∧ tz = 0 ∧ tx = s := by
          intro n' x' q2 q3 q4
          rcases hzd with ⟨a1, a2⟩ | ⟨a1, a2⟩
          · rcases hzr with ⟨b1, b2⟩ | ⟨b1, b2⟩
            · rw [a2] at q2
              rw [b2] at q3
              injection q2 with q2
              injection q3 with q3
              subst q2 q3
              rw [HTV.out] at q4
              injection q4 with q4
              simp at q4
              exact ⟨a1, b1, by omega, q4.1⟩
            · rw [b2] at q3; cases q3
          · rw [a2] at q2; cases q2
        have HBD := hide hbad; have HZD := hide hzd; have HZR := hide hzr
        clear hbad hzd hzr k0 k1 k2 k3 hb5
        have hno0 : ¬ (zd = 0 ∧ zr = 0 ∧ tz = 0 ∧ tx = s) → Hid (∀ q, ¬ ParseR s q) := by
          intro hb
          rintro ⟨o', n', x', es'⟩ ⟨d', r', q1, q2, q3, q4⟩
          rw [(unhide H1).2.2.2] at q1
          injection q1 with q1
          injection q1 with e1 q1
          injection q1 with e2 q1
          injection q1 with e3 e4
          subst e1 e2 e3 e4
          exact hb (unhide HBD n' x' q2 q3 q4)
        have p0 := (unhide H5).2.2.2.1.cell 0; have p1 := (unhide H5).2.2.2.1.cell 1; have p2 := (unhide H5).2.2.2.1.cell 2; have p3 := (unhide H5).2.2.2.1.cell 3
        have g0 := (unhide H5).2.2.2.1.frozen 0; have g1 := (unhide H5).2.2.2.1.frozen 1; have g2 := (unhide H5).2.2.2.1.frozen 2; have g3 := (unhide H5).2.2.2.1.frozen 3
        have k0 := (unhide H5).2.1.cell 0; have k1 := (unhide H5).2.1.cell 1; have k2 := (unhide H5).2.1.cell 2; have k3 := (unhide H5).2.1.cell 3
        simp only [List.getElem?_toArray, List.getElem?_cons_zero, List.getElem?_cons_succ] at p0 p1 p2 p3 k0 k1 k2 k3
        have HN0 := hide hno0; clear hno0
        rcases hzd0 with hz1 | hz1
        · rcases hzr0 with hz2 | hz2
          · by_cases hz3 : tz = 0
            · by_cases hz4 : tx = s
              · have hz4' : (tx.toList == s.toList) = true := by rw [hz4]; exact beq_self_eq_true _
                subst hz1 hz2 hz3
                go_wp2_with fail
                (try simp only [Exit.inBlock, Exit.then])
                refine bodyPost_ret (results_cp rfl _ _ w.heap.size _ _ _ _ rfl (blk4_store (unhide H5).2.2.2.1 _ _ _ _)) rfl ?_
                have hud' : undV d = some n := (unhide HZD).elim (fun h => h.2) (fun h => by cases h.1)
                have hub' : unb64V r = some x := (unhide HZR).elim (fun h => h.2) (fun h => by cases h.1)
                refine ⟨_, 0, rfl, .inl ⟨⟨o, n, x, es⟩, ⟨d, r, (unhide H1).2.2.2, hud', hub', by rw [HTV.out, hz4]; rfl⟩, rfl, ⟨_, rfl, ?_⟩⟩, below4_store (unhide H5).1 (Nat.le_refl _) _ _ _ _⟩
                exact (((((unhide H5).2.2.1.far (p := ⟨w.heap.size, 0, none⟩) (Nat.lt_succ_self _) _).far (p := ⟨w.heap.size, 1, none⟩) (Nat.lt_succ_self _) _).far (p := ⟨w.heap.size, 2, none⟩) (Nat.lt_succ_self _) _).far (p := ⟨w.heap.size, 3, none⟩) (Nat.lt_succ_self _) _).mono (Nat.le_succ _)
              · have hz4' := toList_ne hz4
                have hno := unhide HN0 (fun h => hz4 h.2.2.2)
                subst hz1 hz2 hz3
                go_wp2_with fail
                (try simp only [Exit.inBlock, Exit.then])
                refine bodyPost_ret (results_cp rfl _ _ w.heap.size _ _ _ _ rfl (blk4_store (unhide H5).2.2.2.1 _ _ _ _)) rfl ?_
                exact ⟨_, 204, rfl, .inr ⟨hno.out, rfl, rfl⟩, below4_store (unhide H5).1 (Nat.le_refl _) _ _ _ _⟩
            · have hz3' : ((tz : Int) == 0) = false := by rw [beq_eq_false_iff_ne]; omega
              have hno := unhide HN0 (fun h => hz3 h.2.2.1)
              subst hz1 hz2
              go_wp2_with fail
              (try simp only [Exit.inBlock, Exit.then])
              refine bodyPost_ret (results_cp rfl _ _ w.heap.size _ _ _ _ rfl (blk4_store (unhide H5).2.2.2.1 _ _ _ _)) rfl ?_
              exact ⟨_, 204, rfl, .inr ⟨hno.out, rfl, rfl⟩, below4_store (unhide H5).1 (Nat.le_refl _) _ _ _ _⟩
          · have hno := unhide HN0 (fun h => by have := h.2.1; omega)
            subst hz1 hz2
            go_wp2_with fail
            (try simp only [Exit.inBlock, Exit.then])
            refine bodyPost_ret (results_cp rfl _ _ w.heap.size _ _ _ _ rfl (blk4_store (unhide H5).2.2.2.1 _ _ _ _)) rfl ?_
            exact ⟨_, 204, rfl, .inr ⟨hno.out, rfl, rfl⟩, below4_store (unhide H5).1 (Nat.le_refl _) _ _ _ _⟩
        · have hno := unhide HN0 (fun h => by have := h.1; omega)
          subst hz1
          go_wp2_with fail
          (try simp only [Exit.inBlock, Exit.then])
          refine bodyPost_ret (results_cp rfl _ _ w.heap.size _ _ _ _ rfl (blk4_store (unhide H5).2.2.2.1 _ _ _ _)) rfl ?_
          exact ⟨_, 204, rfl, .inr ⟨hno.out, rfl, rfl⟩, below4_store (unhide H5).1 (Nat.le_refl _) _ _ _ _⟩)
  · have hno : Hid (∀ q, ¬ ParseR s q) := by
      rintro q ⟨d, r, h, -⟩
      rw [hl] at h
      cases h
    have H1 := hide (And.intro hw1 hP1); clear hw1 hP1 hA hb1 hl
    have k0 := (unhide H1).2.cell 0; have k1 := (unhide H1).2.cell 1; have k2 := (unhide H1).2.cell 2; have k3 := (unhide H1).2.cell 3
    have f0 := (unhide H1).2.frozen 0; have f1 := (unhide H1).2.frozen 1; have f2 := (unhide H1).2.frozen 2; have f3 := (unhide H1).2.frozen 3
    simp only [List.getElem?_toArray, List.getElem?_cons_zero, List.getElem?_cons_succ] at k0 k1 k2 k3
    go_wp2_with fail
    (try simp only [Exit.inBlock, Exit.then])
    refine bodyPost_ret (results_cp rfl _ _ w.heap.size _ _ _ _ rfl (blk4_store (unhide H1).2 _ _ _ _)) rfl ?_
    exact ⟨_, 204, rfl, .inr ⟨hno.out, rfl, rfl⟩, below4_store (unhide H1).1 (Nat.le_refl _) _ _ _ _⟩
end Go.Proofs.YtphoflcilpopgaaGreatDoor

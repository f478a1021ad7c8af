/-
  CONTRACT of the document's answer for note: Parse.
-/
import Derived.Test.YtphoflcilpopgaaGreatDoorRows
import Derived.Laws.ResultCell
import Derived.Laws.Rows
import Derived.StillTailTactics
import Derived.Deep.RegionHeld3
import Derived.Deep.RegionLaw
import Derived.Test.YtphoflcilpopgaaGreatDoorGBase
import Derived.Test.YtphoflcilpopgaaGreatDoorGLns
import Derived.Test.YtphoflcilpopgaaGreatDoorGRSg
import Derived.Test.YtphoflcilpopgaaGreatDoorSRTextb
import Derived.Test.YtphoflcilpopgaaGreatDoorSParse
set_option linter.unusedVariables false
set_option linter.unusedSimpArgs false
namespace Go.Proofs.YtphoflcilpopgaaGreatDoor
open Go.RowKit Go.Lib
theorem strs_tail (g cap : Nat) (o d r : ByteArray) (es : List ByteArray) (base : Nat) (w : World) (hO : OwnT w base (.slice (some ⟨g, 0, none⟩) (es.length + 3) cap) (o :: d :: r :: es)) (hcap : es.length + 3 ≤ cap) :
    StrsAt w (.slice (if cap = 3 then some ⟨g, 0, none⟩ else some ⟨g, 3, none⟩) es.length (cap - 3)) es := by
  split
  · obtain rfl : es = [] := List.eq_nil_of_length_eq_zero (by omega)
    exact ⟨_, _, rfl, fun j hj => absurd hj (by simp)⟩
  · have h := hO.tail 3 (cap - 3) (by simp)
    simpa using h
theorem step_appT {ops : Array Oper} {o : Oper} {a : Act} {K : Act → World → Prop} {Q : Exit → Act → World → Prop} {E : Prop} (w : World) (hgd : o.guard = none) (s x : Operand)
    (ho : o.op = .call { callee := .builtin .append, args := #[s, x], argTypes := #[28, 28] })
    {base : Nat} {v : Value} {es : List ByteArray} (hown : OwnT w base v es) (hs : a.eval s = v) {A : Option Addr} {m c : Nat} {es2 : List ByteArray} (hr : StrsAt w (.slice A m c) es2) (hx : a.eval x = .slice A m c)
    (h47 : es.length + es2.length ≤ 4398046511104) (hbase : base ≤ w.heap.size)
    (h : ∀ v' w', OwnT w' base v' (es ++ es2) → w.grownBy w' v.ownBlock → (v'.ownBlock = v.ownBlock ∨ v'.ownBlock = some w.heap.size) → K (a.put o.dst v') w') :
    if Region.wanted o (yielded ops a.tmps) = true then Oper.wp Tryz.prog o a w K Q else E := by
  obtain ⟨i, hi, hz, hs1, hb1⟩ := info_parts strInfo
  obtain ⟨hm, hrd⟩ := hr.reads
  refine step_append_any (w := w) hgd s x 28 ho base 9 i (.string ⟨#[]⟩) 1 16 Tryz.underlying28 hi hz hs1 hb1 rfl (by decide) v es.length (es.map Value.string) hs hown w.heap.size A m c (es2.map Value.string) hx hrd ?_ ?_ ?_ hbase ?_
  · intro u hu
    obtain ⟨y, _, rfl⟩ := List.mem_map.1 hu
    rfl
  · simp only [maxLen]; omega
  · omega
  · intro v' w' h1 h2 h3
    refine h v' w' ?_ h2 h3
    unfold OwnT
    rw [List.map_append, List.length_append, ← hm]
    exact h1
set_option maxRecDepth 100000 in
set_option maxHeartbeats 4000000 in
theorem rparse_any (s : ByteArray) (w : World) (hs : s.size ≤ 1099511627776) :
    Calls Tryz.prog 5 #[.string s] w fun e w' => ∃ u z, e = .returned (.tuple #[u, .int .i64 (z : Nat)]) ∧ ParseA w.heap.size s u z w' ∧ Below w.heap.size w w' := by
  have hli := fun W => rlines_any s W hs
  have HLI := hide hli; clear hli
  go_enter Tryz.func5, Tryz.ntmps5
  go_wp2_with fail
  refine (unhide HLI _).mono ?_
  rintro e w1 ⟨v, rfl, hA, hb1⟩
  have hw1 : Below w.heap.size w w1 := ((Below.refl _ _).alloc (Nat.le_refl _) _).trans (hb1.mono (by simp))
  have hP1 : Blk w1 w.heap.size 30 #[.string ⟨#[]⟩, .int .i64 0, .string ⟨#[]⟩, .slice none 0 0] := (Blk.new w _ _).below hb1 (by simp)
  rcases hA.get with ⟨l, u, hl, rfl, hO⟩ | ⟨hl, rfl⟩
  · rcases Nat.lt_or_ge l.length 3 with h3 | h3
    · have hno : Hid (∀ q, ¬ ParseR s q) := by
        rintro q ⟨d, r, h, -⟩
        rw [hl] at h
        injection h with h
        rw [h] at h3
        simp at h3
        omega
      have hlen : ∃ A c, u = .slice A l.length c := by
        rcases hO.form with ⟨hv, he⟩ | ⟨g, cap, hv, -⟩
        · exact ⟨none, 0, by rw [hv, he]; rfl⟩
        · exact ⟨_, cap, hv⟩
      obtain ⟨A, c, rfl⟩ := hlen
      have h3' : (l.length : Int) < 3 := by omega
      have H1 := hide (And.intro hw1 hP1); clear hw1 hP1 hA hb1 hl hO
      have k0 := (unhide H1).2.cell 0; have k1 := (unhide H1).2.cell 1; have k2 := (unhide H1).2.cell 2; have k3 := (unhide H1).2.cell 3
      have f0 := (unhide H1).2.frozen 0; have f1 := (unhide H1).2.frozen 1; have f2 := (unhide H1).2.frozen 2; have f3 := (unhide H1).2.frozen 3
      simp only [List.getElem?_toArray, List.getElem?_cons_zero, List.getElem?_cons_succ] at k0 k1 k2 k3
      go_wp2_with fail
      (try simp only [Exit.inBlock, Exit.then])
      refine bodyPost_ret (results_cp rfl _ _ w.heap.size _ _ _ _ rfl (blk4_store (unhide H1).2 _ _ _ _)) rfl ?_
      exact ⟨_, 204, rfl, .inr ⟨hno.out, rfl, rfl⟩, below4_store (unhide H1).1 (Nat.le_refl _) _ _ _ _⟩
    · obtain ⟨o, d, r, es, rfl⟩ : ∃ o d r es, l = o :: d :: r :: es := by
        match l, h3 with
        | o :: d :: r :: es, _ => exact ⟨o, d, r, es, rfl⟩
      obtain ⟨g, cap, rfl, hgb, hgl, hcap⟩ : ∃ g cap, u = .slice (some ⟨g, 0, none⟩) (o :: d :: r :: es).length cap ∧ w.heap.size + 1 ≤ g ∧ g < w1.heap.size ∧ (o :: d :: r :: es).length ≤ cap := by
        rcases hO.form with ⟨_, he⟩ | ⟨g, cap, hv, h1, h2, h4⟩
        · cases he
        · exact ⟨g, cap, hv, by simpa using h1, h2, h4⟩
      have c0 := hO.cell 0 (by simp)
      have c1 := hO.cell 1 (by simp)
      have c2 := hO.cell 2 (by simp)
      simp only [List.getElem_cons_zero, List.getElem_cons_succ] at c0 c1 c2
      have hlen := linesV_len hl
      rw [linesL_cons, linesL_cons, linesL_cons] at hlen
      have hd := fun W => rundec_any d W (by omega)
      have hr := fun W => runb_any r W (by omega)
      simp only [List.length_cons] at hcap
      have hcap' : es.length + 3 ≤ cap := by omega
      have HD := hide hd; have HR := hide hr; clear hd hr hcap
      have H1 := hide (And.intro hw1 (And.intro hP1 (And.intro hO hl))); clear hw1 hP1 hA hb1 hl hO h3
      rw [show (o :: d :: r :: es).length = es.length + 3 from rfl] at *
      go_wp2_with fail
      obtain ⟨n, zd, hud, hzd⟩ := undA_form d
      obtain ⟨x, zr, hub, hxr, hzr⟩ := unbA_form r
      rw [hud] at HD
      rw [hub] at HR
      have hzd0 : zd = 0 ∨ zd = 42 := hzd.elim (fun h => .inl h.1) (fun h => .inr h.1)
      have hzr0 : zr = 0 ∨ zr = 40 := hzr.elim (fun h => .inl h.1) (fun h => .inr h.1)
      refine (unhide HD _).mono ?_
      rintro e w2 ⟨rfl, rfl⟩
      clear c0 c1
      go_wp2_with fail
      refine (unhide HR _).mono ?_
      rintro e w3 ⟨rfl, hb3⟩
      have hw3 := (unhide H1).1.trans (hb3.mono (unhide H1).1.size)
      have hO3 := (unhide H1).2.2.1.below hb3
      have c30 := hO3.cell 0 (by simp)
      simp only [List.getElem_cons_zero] at c30
      have hP3 := (unhide H1).2.1.below hb3 (unhide H1).2.1.lt
      have HZD := hide hzd; have HZR := hide hzr
      have hno0 : (∀ n' x', undV d = some n' → unb64V r = some x' → textV o n' x' es = .tuple #[.string s, .int .i64 0] → False) → Hid (∀ q, ¬ ParseR s q) := by
        intro hb
        rintro ⟨o', n', x', es'⟩ ⟨d', r', q1, q2, q3, q4⟩
        rw [(unhide H1).2.2.2] at q1
        injection q1 with q1
        injection q1 with e1 q1
        injection q1 with e2 q1
        injection q1 with e3 e4
        subst e1 e2 e3 e4
        exact hb n' x' q2 q3 q4
      have HN0 := hide hno0; clear hno0 hzd hzr
      have p0 := hP3.cell 0; have p1 := hP3.cell 1; have p2 := hP3.cell 2; have p3 := hP3.cell 3
      have g0 := hP3.frozen 0; have g1 := hP3.frozen 1; have g2 := hP3.frozen 2; have g3 := hP3.frozen 3
      simp only [List.getElem?_toArray, List.getElem?_cons_zero, List.getElem?_cons_succ] at p0 p1 p2 p3
      have H3 := hide (And.intro hw3 (And.intro hO3 hP3)); clear hw3 hO3 hP3 hb3 c2
      rcases hzd0 with hz1 | hz1
      · rcases hzr0 with hz2 | hz2
        · subst hz1 hz2
          have hud' : undV d = some n := (unhide HZD).elim (fun h => h.2) (fun h => by cases h.1)
          have hub' : unb64V r = some x := (unhide HZR).elim (fun h => h.2) (fun h => by cases h.1)
          have HUU := hide (And.intro hud' hub'); clear hud' hub' p0 p1 p2 p3 g0 g1 g2 g3
          go_wp2_with fail
          have HF : Hid (Below w.heap.size w (w3.alloc (.cells #[.string o, .int .i64 n, .string x, .slice none 0 0] 30)) ∧ Blk (w3.alloc (.cells #[.string o, .int .i64 n, .string x, .slice none 0 0] 30)) w3.heap.size 30 #[.string o, .int .i64 n, .string x, .slice none 0 0] ∧ OwnT (w3.alloc (.cells #[.string o, .int .i64 n, .string x, .slice none 0 0] 30)) (w.heap.size + 1) (.slice (some ⟨g, 0, none⟩) (es.length + 3) cap) (o :: d :: r :: es) ∧ Blk (w3.alloc (.cells #[.string o, .int .i64 n, .string x, .slice none 0 0] 30)) w.heap.size 30 #[.string ⟨#[]⟩, .int .i64 0, .string ⟨#[]⟩, .slice none 0 0] ∧ w3.heap.size + 1 ≤ (w3.alloc (.cells #[.string o, .int .i64 n, .string x, .slice none 0 0] 30)).heap.size ∧ w.heap.size < w3.heap.size) :=
            ⟨(unhide H3).1.alloc (unhide H3).1.size _, Blk.new _ _ _, ((unhide H3).2.1.alloc _).mono (by simp), (unhide H3).2.2.alloc _, by simp, (unhide H3).2.2.lt⟩
          generalize (w3.alloc (.cells #[.string o, .int .i64 n, .string x, .slice none 0 0] 30)) = W at *
          generalize w3.heap.size = gp at *
          clear H3 c30 HD HR
          have hst := strs_tail g cap o d r es _ W (unhide HF).2.2.1 hcap'
          obtain ⟨P0, hif⟩ : ∃ P0, (if cap = 3 then some (⟨g, 0, none⟩ : Addr) else some ⟨g, 3, none⟩) = P0 := ⟨_, rfl⟩
          rw [hif] at hst
          have HST := hide hst; clear hst
          have c3 := (unhide HF).2.1.cell 3
          simp only [List.getElem?_toArray, List.getElem?_cons_zero, List.getElem?_cons_succ] at c3
          have hc3 : (3 : Int) ≤ (cap : Int) := by omega
          have hi3 : (3 : Int) ≤ (es.length : Int) + 3 := by omega
          have hi4 : (es.length : Int) + 3 ≤ (cap : Int) := by omega
          have hi5 : ((es.length + 3 : Nat) : Int) = (es.length : Int) + 3 := by omega
          have hnes : es.length ≤ 1099511627776 := by have := linesL_ge es; omega
          go_region_law (first | (refine step_appT _ rfl _ _ rfl (OwnT.nil _ (gp + 1)) rfl (unhide HST).drew rfl (by simp; omega) (unhide HF).2.2.2.2.1 ?_; intro v4 w4 hO4 hg4 hat4; obtain ⟨A4, cc4, rfl⟩ := hO4.slice; have hN4 := ((unhide HF).2.1.drew).grown hg4 (by simp [Value.ownBlock]); have k3 := hN4.cell 3; have f3 := hN4.frozen 3; simp only [List.getElem?_toArray, List.getElem?_cons_zero, List.getElem?_cons_succ] at k3))
          all_goals (
            rw [List.nil_append] at hO4
            have hF1 := ((unhide HF).1.drew).grown hg4 (Nat.le_trans (Nat.le_trans (Nat.le_of_lt (unhide HF).2.2.2.2.2) (Nat.le_succ _)) (unhide HF).2.2.2.2.1) (fun q hq => by simp [Value.ownBlock] at hq)
            have hZ4 := ((unhide HF).2.2.2.1.drew).grown hg4 (by simp [Value.ownBlock])
            have HG : Hid (Below w.heap.size w (w4.setCell ⟨gp, 3, none⟩ (.slice A4 es.length cc4)) ∧ Blk (w4.setCell ⟨gp, 3, none⟩ (.slice A4 es.length cc4)) gp 30 #[.string o, .int .i64 n, .string x, .slice A4 es.length cc4] ∧ OwnT (w4.setCell ⟨gp, 3, none⟩ (.slice A4 es.length cc4)) (w.heap.size + 1) (.slice A4 es.length cc4) es ∧ Blk (w4.setCell ⟨gp, 3, none⟩ (.slice A4 es.length cc4)) w.heap.size 30 #[.string ⟨#[]⟩, .int .i64 0, .string ⟨#[]⟩, .slice none 0 0]) := by
              have hlt := (unhide HF).2.2.2.2.2
              refine ⟨hF1.setCell (p := ⟨gp, 3, none⟩) (Nat.le_of_lt hlt) _, ?_, (hO4.far (p := ⟨gp, 3, none⟩) (Nat.lt_succ_self _) _).mono (by omega), hZ4.far (p := ⟨gp, 3, none⟩) (Nat.ne_of_lt hlt) _⟩
              have h := hN4.set_ 3 (.slice A4 es.length cc4)
              simpa using h
            clear hg4 hat4 hN4 f3 k3 hO4 hF1 hZ4 c3 HST HF
            generalize (w4.setCell ⟨gp, 3, none⟩ (.slice A4 es.length cc4)) = W5 at *
            have k0 := (unhide HG).2.1.cell 0; have k1 := (unhide HG).2.1.cell 1; have k2 := (unhide HG).2.1.cell 2; have k3 := (unhide HG).2.1.cell 3
            simp only [List.getElem?_toArray, List.getElem?_cons_zero, List.getElem?_cons_succ] at k0 k1 k2 k3
            have hcall := rnoteTx_any o x n _ es W5 (by omega) (by omega) (by omega) (unhide HG).2.2.1.toStrs
            obtain ⟨tx, tz, htv, htz⟩ := textV_form o n x es
            rw [htv] at hcall
            have HTV := Lib.hid htv; have HC := hide hcall; clear htv hcall hi3 hi4 hi5 hc3
            go_wp2_with fail
            refine (unhide HC).mono ?_
            rintro e w6 ⟨rfl, hb6⟩
            have H5 := hide (And.intro ((unhide HG).1.trans (hb6.mono (unhide HG).1.size)) (And.intro ((unhide HG).2.1.below hb6 (unhide HG).2.1.lt) (And.intro ((unhide HG).2.2.1.below hb6) ((unhide HG).2.2.2.below hb6 (unhide HG).2.2.2.lt))))
            clear k0 k1 k2 k3 hb6
            have p0 := (unhide H5).2.2.2.cell 0; have p1 := (unhide H5).2.2.2.cell 1; have p2 := (unhide H5).2.2.2.cell 2; have p3 := (unhide H5).2.2.2.cell 3
            have g0 := (unhide H5).2.2.2.frozen 0; have g1 := (unhide H5).2.2.2.frozen 1; have g2 := (unhide H5).2.2.2.frozen 2; have g3 := (unhide H5).2.2.2.frozen 3
            have k0 := (unhide H5).2.1.cell 0; have k1 := (unhide H5).2.1.cell 1; have k2 := (unhide H5).2.1.cell 2; have k3 := (unhide H5).2.1.cell 3
            simp only [List.getElem?_toArray, List.getElem?_cons_zero, List.getElem?_cons_succ] at p0 p1 p2 p3 k0 k1 k2 k3
            have hno0 : ¬ (tz = 0 ∧ tx = s) → Hid (∀ q, ¬ ParseR s q) := fun hb => unhide HN0 (fun n' x' q2 q3 q4 => by
              rw [(unhide HUU).1] at q2
              rw [(unhide HUU).2] at q3
              injection q2 with q2
              injection q3 with q3
              subst q2 q3
              rw [HTV.out] at q4
              injection q4 with q4
              simp at q4
              exact hb ⟨by omega, q4.1⟩)
            have HNB := hide hno0; clear hno0
            by_cases hz3 : tz = 0
            · by_cases hz4 : tx = s
              · have hz4' : (tx.toList == s.toList) = true := by rw [hz4]; exact beq_self_eq_true _
                subst hz3
                go_wp2_with fail
                (try simp only [Exit.inBlock, Exit.then])
                refine bodyPost_ret (results_cp rfl _ _ w.heap.size _ _ _ _ rfl (blk4_store (unhide H5).2.2.2 _ _ _ _)) rfl ?_
                refine ⟨_, 0, rfl, .inl ⟨⟨o, n, x, es⟩, ⟨d, r, (unhide H1).2.2.2, (unhide HUU).1, (unhide HUU).2, by rw [HTV.out, hz4]; rfl⟩, rfl, ⟨_, rfl, ?_⟩⟩, below4_store (unhide H5).1 (Nat.le_refl _) _ _ _ _⟩
                exact (((((unhide H5).2.2.1.far (p := ⟨w.heap.size, 0, none⟩) (Nat.lt_succ_self _) _).far (p := ⟨w.heap.size, 1, none⟩) (Nat.lt_succ_self _) _).far (p := ⟨w.heap.size, 2, none⟩) (Nat.lt_succ_self _) _).far (p := ⟨w.heap.size, 3, none⟩) (Nat.lt_succ_self _) _).mono (Nat.le_succ _)
              · have hz4' := toList_ne hz4
                have hno := unhide HNB (fun h => hz4 h.2)
                subst hz3
                go_wp2_with fail
                (try simp only [Exit.inBlock, Exit.then])
                refine bodyPost_ret (results_cp rfl _ _ w.heap.size _ _ _ _ rfl (blk4_store (unhide H5).2.2.2 _ _ _ _)) rfl ?_
                exact ⟨_, 204, rfl, .inr ⟨hno.out, rfl, rfl⟩, below4_store (unhide H5).1 (Nat.le_refl _) _ _ _ _⟩
            · have hz3' : ((tz : Int) == 0) = false := by rw [beq_eq_false_iff_ne]; omega
              have hno := unhide HNB (fun h => hz3 h.1)
              go_wp2_with fail
              (try simp only [Exit.inBlock, Exit.then])
              refine bodyPost_ret (results_cp rfl _ _ w.heap.size _ _ _ _ rfl (blk4_store (unhide H5).2.2.2 _ _ _ _)) rfl ?_
              exact ⟨_, 204, rfl, .inr ⟨hno.out, rfl, rfl⟩, below4_store (unhide H5).1 (Nat.le_refl _) _ _ _ _⟩)
        · have hno := unhide HN0 (fun n' x' q2 q3 q4 => by
            rcases (unhide HZR) with ⟨b1, b2⟩ | ⟨b1, b2⟩
            · omega
            · rw [b2] at q3; cases q3)
          subst hz1 hz2
          go_wp2_with fail
          (try simp only [Exit.inBlock, Exit.then])
          refine bodyPost_ret (results_cp rfl _ _ w.heap.size _ _ _ _ rfl (blk4_store (unhide H3).2.2 _ _ _ _)) rfl ?_
          exact ⟨_, 204, rfl, .inr ⟨hno.out, rfl, rfl⟩, below4_store (unhide H3).1 (Nat.le_refl _) _ _ _ _⟩
      · have hno := unhide HN0 (fun n' x' q2 q3 q4 => by
          rcases (unhide HZD) with ⟨b1, b2⟩ | ⟨b1, b2⟩
          · omega
          · rw [b2] at q2; cases q2)
        subst hz1
        go_wp2_with fail
        (try simp only [Exit.inBlock, Exit.then])
        refine bodyPost_ret (results_cp rfl _ _ w.heap.size _ _ _ _ rfl (blk4_store (unhide H3).2.2 _ _ _ _)) rfl ?_
        exact ⟨_, 204, rfl, .inr ⟨hno.out, rfl, rfl⟩, below4_store (unhide H3).1 (Nat.le_refl _) _ _ _ _⟩
  · have hno : Hid (∀ q, ¬ ParseR s q) := by
      rintro q ⟨d, r, h, -⟩
      rw [hl] at h
      cases h
    have H1 := hide (And.intro hw1 hP1); clear hw1 hP1 hA hb1 hl
    have k0 := (unhide H1).2.cell 0; have k1 := (unhide H1).2.cell 1; have k2 := (unhide H1).2.cell 2; have k3 := (unhide H1).2.cell 3
    have f0 := (unhide H1).2.frozen 0; have f1 := (unhide H1).2.frozen 1; have f2 := (unhide H1).2.frozen 2; have f3 := (unhide H1).2.frozen 3
    simp only [List.getElem?_toArray, List.getElem?_cons_zero, List.getElem?_cons_succ] at k0 k1 k2 k3
    go_wp2_with fail
    (try simp only [Exit.inBlock, Exit.then])
    refine bodyPost_ret (results_cp rfl _ _ w.heap.size _ _ _ _ rfl (blk4_store (unhide H1).2 _ _ _ _)) rfl ?_
    exact ⟨_, 204, rfl, .inr ⟨hno.out, rfl, rfl⟩, below4_store (unhide H1).1 (Nat.le_refl _) _ _ _ _⟩
end Go.Proofs.YtphoflcilpopgaaGreatDoor

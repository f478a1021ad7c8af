/-
  CONTRACT of play.words: the words of a step.
-/
import Derived.Test.YtaomecinemmdgaaRows
import Derived.Deep.RegionHeld3
import Derived.Deep.DeepCutAuto
import Derived.Deep.CutBlock
import Derived.Deep.CutRange
import Derived.Test.YtaomecinemmdgaaGBase
import Derived.Test.YtaomecinemmdgaaGLns
import Derived.Test.YtaomecinemmdgaaGDecs
import Derived.Test.YtaomecinemmdgaaSEsc
import Derived.Test.YtaomecinemmdgaaSShapes
import Derived.Test.YtaomecinemmdgaaSPlayNum
import Derived.Test.YtaomecinemmdgaaSWordsI
set_option linter.unusedVariables false
set_option linter.unusedSimpArgs false
namespace Go.Proofs.Ytaomecinemmdgaa
open Go.RowKit Go.Lib
theorem wants_in {F : ShapeR} {c : UInt8} (h : c ∈ wantsL F) : c = 110 ∨ c = 115 ∨ c = 111 ∨ c = 78 ∨ c = 83 := by
  unfold wantsL at h
  split at h
  · simp at h; exact .inr (.inr (.inl h))
  · rcases List.mem_append.1 h with h | h
    · rcases List.mem_append.1 h with h | h
      · exact .inl (List.eq_of_mem_replicate h)
      · exact .inr (.inl (List.eq_of_mem_replicate h))
    · split at h
      · simp at h; exact .inr (.inr (.inr (.inl h)))
      · split at h
        · simp at h; exact .inr (.inr (.inr (.inr h)))
        · simp at h
theorem own_slice {w : World} {base : Nat} {v : Value} {es : List ByteArray} (h : OwnT w base v es) : ∃ A c, v = .slice A es.length c := by
  rcases h.form with ⟨hv, he⟩ | ⟨g, cap, hv, -⟩
  · exact ⟨none, 0, by rw [hv, he]; rfl⟩
  · exact ⟨_, cap, hv⟩
theorem own_mono {w : World} {base base' : Nat} {v : Value} {es : List ByteArray} (h : OwnT w base v es) (hb : base' ≤ base) : OwnT w base' v es := by
  refine ⟨h.1, ?_⟩
  rcases h.2 with h2 | ⟨g, cap, cur, h1, h2, h3⟩
  · exact .inl h2
  · exact .inr ⟨g, cap, cur, h1, by omega, h3⟩
/-- What stands through a call of words: the step and its shape, each in a block. -/
def WdX (w : World) (g0 : Nat) (st : Array Value) (F : ShapeR) (s3 : Value) (wx : World) : Prop :=
  ∃ gf : Nat, s3 = .pointer (some ⟨gf, 0, none⟩) ∧ w.heap.size < gf ∧ Blk wx gf 60 #[.string F.wd, .string (wantsS F)] ∧ Blk wx g0 52 st ∧ Below w.heap.size w wx
theorem wd_A {w w0 w1 : World} {g0 : Nat} {st : Array Value} {F : ShapeR} (hg0 : w.heap.size = g0) (hB : Blk w0 g0 52 st) (hb : Below g0 w w0) (hb2' : Below w0.drew.heap.size w0.drew w1) :
    WdX w g0 st F (.pointer (some ⟨w1.heap.size, 0, none⟩)) (w1.alloc (.cells #[.string F.wd, .string (wantsS F)] 60)) := by
  subst hg0
  have hb2 : Below w0.heap.size w0 w1 := ((Below.refl w0.heap.size w0).drew).trans hb2'
  have h1 := hb.size; have h2 := hb2.size; have h3 := hB.lt
  exact ⟨_, rfl, by omega, Blk.new _ _ _, (hB.below hb2 hB.lt).alloc _, (hb.trans (hb2.mono h1)).alloc (Nat.le_trans h1 h2) _⟩
theorem wd_B {w w0 w1 : World} {g0 : Nat} {st : Array Value} {F : ShapeR} {ob : Obj} (hg0 : w.heap.size = g0) (hB : Blk w0 g0 52 st) (hb : Below g0 w w0) (hb2' : Below (w0.alloc ob).drew.heap.size (w0.alloc ob).drew w1) (hN : Blk w1 w0.heap.size 60 #[.string ⟨#[]⟩, .string ⟨#[]⟩]) :
    WdX w g0 st F (.pointer (some ⟨w0.heap.size, 0, none⟩)) ((w1.setCell ⟨w0.heap.size, 0, none⟩ (.string F.wd)).setCell ⟨w0.heap.size, 1, none⟩ (.string (wantsS F))) := by
  subst hg0
  have hb2 : Below (w0.alloc ob).heap.size (w0.alloc ob) w1 := ((Below.refl (w0.alloc ob).heap.size (w0.alloc ob)).drew).trans hb2'
  have h1 := hb.size; have h3 := hB.lt
  have h4 : (w0.alloc ob).heap.size = w0.heap.size + 1 := by simp
  have hB2 := (hB.alloc ob).below hb2 (by omega)
  have hne : w.heap.size ≠ w0.heap.size := by omega
  exact ⟨_, rfl, by omega, (hN.set_ 0 _).set_ 1 _, (hB2.far (p := ⟨w0.heap.size, 0, none⟩) hne _).far (p := ⟨w0.heap.size, 1, none⟩) hne _, ((((hb.alloc h1 ob).trans (hb2.mono (by omega))).setCell (p := ⟨w0.heap.size, 0, none⟩) h1 _).setCell (p := ⟨w0.heap.size, 1, none⟩) h1 _)⟩
theorem shapes_index (W : World) : ∀ (k : Nat) (h : k < 35), (Instr.index 61 (.agg shapesC.toArray) (.int .i64 (k : Int))).run Try.prog W = .ok (.agg #[.string (shapeAt k).wd, .string (wantsS (shapeAt k))]) W
  | 0, _ => by kernel_rfl
  | 1, _ => by kernel_rfl
  | 2, _ => by kernel_rfl
  | 3, _ => by kernel_rfl
  | 4, _ => by kernel_rfl
  | 5, _ => by kernel_rfl
  | 6, _ => by kernel_rfl
  | 7, _ => by kernel_rfl
  | 8, _ => by kernel_rfl
  | 9, _ => by kernel_rfl
  | 10, _ => by kernel_rfl
  | 11, _ => by kernel_rfl
  | 12, _ => by kernel_rfl
  | 13, _ => by kernel_rfl
  | 14, _ => by kernel_rfl
  | 15, _ => by kernel_rfl
  | 16, _ => by kernel_rfl
  | 17, _ => by kernel_rfl
  | 18, _ => by kernel_rfl
  | 19, _ => by kernel_rfl
  | 20, _ => by kernel_rfl
  | 21, _ => by kernel_rfl
  | 22, _ => by kernel_rfl
  | 23, _ => by kernel_rfl
  | 24, _ => by kernel_rfl
  | 25, _ => by kernel_rfl
  | 26, _ => by kernel_rfl
  | 27, _ => by kernel_rfl
  | 28, _ => by kernel_rfl
  | 29, _ => by kernel_rfl
  | 30, _ => by kernel_rfl
  | 31, _ => by kernel_rfl
  | 32, _ => by kernel_rfl
  | 33, _ => by kernel_rfl
  | 34, _ => by kernel_rfl
  | k + 35, h => absurd h (by omega)
theorem wants_len : ∀ k : Fin 35, (wantsL (shapeAt k.val)).length ≤ 7 := by decide
theorem iterPos_of {w : World} {k : Nat} {s : ByteArray} {p : Nat} (h : w.heap[k]? = some (.stringIter s p)) : w.iterPos k = p := by simp [World.iterPos, h]
theorem getD_in {ns : List Int} (h : ∀ n ∈ ns, In64 n) (i : Nat) : In64 (ns.getD i 0) := by
  rw [List.getD_eq_getElem?_getD]
  rcases Nat.lt_or_ge i ns.length with hlt | hge
  · rw [List.getElem?_eq_getElem hlt]; exact h _ (List.getElem_mem hlt)
  · rw [List.getElem?_eq_none hge]; exact ⟨by decide, by decide⟩
theorem drop_next {α : Type} (l : List α) (g : α → ByteArray) (out : List ByteArray) (c q : Nat) (hc : c ≤ q) (hq : q < l.length) : out ++ ((l.drop c).take (q + 1 - c)).map g = out ++ ((l.drop c).take (q - c)).map g ++ [g l[q]] := by
  have h : q - c < (l.drop c).length := by rw [List.length_drop]; omega
  rw [show q + 1 - c = q - c + 1 by omega, List.take_succ_eq_append_getElem h, List.map_append, List.append_assoc]
  simp only [List.getElem_drop, List.map_cons, List.map_nil]
  have e : c + (q - c) = q := by omega
  simp only [e]
set_option maxRecDepth 100000 in
set_option maxHeartbeats 4000000 in
theorem words_any (k : Nat) (a b c d e f : Int) (vn vs : Value) (ns : List Int) (ss : List ByteArray) (w : World) (hk1 : 1 ≤ k) (hk2 : k ≤ 34) (hN : IntsAt w vn ns) (hS : StrsAt w vs ss) (hns : ∀ n ∈ ns, In64 n) (hop : ∀ n ∈ [a, b, c, d, e, f], In64 n) (hnz : ns.length ≤ 1073741824) (hsz : sizeS ss ≤ 1048576) :
    Calls Try.prog 29 #[.agg #[.int .i64 (k : Int), vn, vs, .int .i64 a, .int .i64 b, .int .i64 c, .int .i64 d, .int .i64 e, .int .i64 f]] w fun e' w' => ∃ v, e' = .returned v ∧ OwnT w' w.heap.size v (wordsP (shapeAt k) ⟨k, [a, b, c, d, e, f], ns, ss⟩) ∧ Below w.heap.size w w' := by
  obtain ⟨A, cA, rfl, -⟩ := id hN
  obtain ⟨B, cB, rfl, -⟩ := id hS
  have HNS := hide (And.intro hN hS); clear hN hS
  have hsh := fun W => shapes_any W
  have HSH := hide hsh; clear hsh
  go_enter Try.func29, Try.ntmps29
  go_wp2_with fail
  have hB0 := Blk.new w 52 #[.int .i64 (k : Int), .slice A ns.length cA, .slice B ss.length cB, .int .i64 a, .int .i64 b, .int .i64 c, .int .i64 d, .int .i64 e, .int .i64 f]
  have hb0 : Below w.heap.size w (w.alloc (.cells #[.int .i64 (k : Int), .slice A ns.length cA, .slice B ss.length cB, .int .i64 a, .int .i64 b, .int .i64 c, .int .i64 d, .int .i64 e, .int .i64 f] 52)) := (Below.refl _ _).alloc (Nat.le_refl _) _
  generalize w.alloc (.cells #[.int .i64 (k : Int), .slice A ns.length cA, .slice B ss.length cB, .int .i64 a, .int .i64 b, .int .i64 c, .int .i64 d, .int .i64 e, .int .i64 f] 52) = w0 at *
  generalize hg0 : w.heap.size = g0 at *
  have k0 := hB0.cell 0
  simp only [List.getElem?_toArray, List.getElem?_cons_zero, List.getElem?_cons_succ] at k0
  have t0 : (0 : Int) ≤ (k : Int) := by omega
  have t1 : (k : Int) < 35 := by omega
  have H0 := hide (And.intro hB0 hb0); clear hB0 hb0
  have hix := fun W => shapes_index W k (by omega)
  obtain ⟨F, hF⟩ : ∃ F, Hid (shapeAt k = F) := ⟨_, Lib.hid rfl⟩
  rw [hF.out] at hix
  obtain ⟨C, hC⟩ : ∃ C, Hid (shapesC.toArray = C) := ⟨_, Lib.hid rfl⟩
  rw [hC.out] at HSH hix
  have nl0 := (unhide H0).1.lt
  have nn0 := World.new_ne w0 _ k0
  have nn1 : ¬ g0 = w0.heap.size := fun e => nn0 e.symm
  go_cut [3] (fun s3 wx => WdX w g0 #[.int .i64 (k : Int), .slice A ns.length cA, .slice B ss.length cB, .int .i64 a, .int .i64 b, .int .i64 c, .int .i64 d, .int .i64 e, .int .i64 f] F s3 wx)
  case first =>
    go_region_held3 (fun W => W.cell? ⟨g0, 0, none⟩ = some (.int .i64 (k : Int))) (first | assumption | go_keep) (first
      | (go_at_call 26; (with_reducible refine ((unhide HSH) w0.drew).mono ?_); rintro e1 w1 ⟨rfl, hb1⟩; have k01 : w1.cell? ⟨g0, 0, none⟩ = some (.int .i64 (k : Int)) := (hb1.cell nl0).trans k0; have hn3 : g0 < w1.heap.size := World.block_lt_of_cell? w1 _ k01; have hn4 : ¬ g0 = w1.heap.size := (fun e => by omega); have hn5 : ¬ w1.heap.size = g0 := (fun e => by omega))
      | (go_at_call 26; refine ((unhide HSH) _).mono ?_; rintro e1 w1 ⟨rfl, hb1⟩; have k01 : w1.cell? ⟨g0, 0, none⟩ = some (.int .i64 (k : Int)) := (hb1.cell (by simp; omega)).trans ((World.cell?_alloc_lt w0 _ ⟨g0, 0, none⟩ nl0).trans k0); have hN := ((Blk.new w0 60 #[.string ⟨#[]⟩, .string ⟨#[]⟩]).drew).below hb1 (by simp); have n0 := hN.cell 0; have n1 := hN.cell 1; have nf0 := hN.frozen 0; have nf1 := hN.frozen 1; simp only [List.getElem?_toArray, List.getElem?_cons_zero, List.getElem?_cons_succ] at n0 n1))
    all_goals
      go_wp2_with fail
      go_meet
      case rel => first | with_reducible exact wd_A hg0 (unhide H0).1 (unhide H0).2 hb1 | with_reducible exact wd_B hg0 (unhide H0).1 (unhide H0).2 hb1 hN
  case rest =>
    obtain ⟨gf, rfl, hgf, hf, hs, hb⟩ := hcut
    have f0 := hf.cell 0; have f1 := hf.cell 1
    simp only [List.getElem?_toArray, List.getElem?_cons_zero, List.getElem?_cons_succ] at f0 f1
    have hgc := hf.lt
    have hw2 := hb.alloc hb.size (.cells #[.string F.wd] 9)
    have hf2 := hf.alloc (.cells #[.string F.wd] 9)
    have hs2 := hs.alloc (.cells #[.string F.wd] 9)
    have hO2 : OwnT (wc.alloc (.cells #[.string F.wd] 9)) (gf + 1) (.slice (some ⟨wc.heap.size, 0, none⟩) 1 1) [F.wd] := ⟨rfl, .inr ⟨wc.heap.size, 1, #[.string F.wd], rfl, hf.lt, Blk.new _ _ _, Nat.le_refl _, by simp [maxLen], rfl, rfl⟩⟩
    have e1 := hf2.cell 1
    simp only [List.getElem?_toArray, List.getElem?_cons_zero, List.getElem?_cons_succ] at e1
    have H1 := hide (And.intro hf2 (And.intro hs2 (And.intro hw2 hO2))); clear hf hs hb H0 k0 nl0 nn0 nn1 hix hC HSH hf2 hs2 hw2 hO2
    go_wp2_with fail
    have hgi : (wc.alloc (.cells #[.string F.wd] 9)).heap.size = wc.heap.size + 1 := by simp
    generalize (wc.alloc (.cells #[.string F.wd] 9)) = w2 at *
    have hX0 : WdI w (w2.iter (wantsS F) 0) gf g0 (wc.heap.size + 1) F #[.int .i64 (k : Int), .slice A ns.length cA, .slice B ss.length cB, .int .i64 a, .int .i64 b, .int .i64 c, .int .i64 d, .int .i64 e, .int .i64 f] (.slice (some ⟨wc.heap.size, 0, none⟩) 1 1) [F.wd] 0 := by
      have hb : Below w2.heap.size w2 (w2.iter (wantsS F) 0) := (Below.refl _ w2).alloc (Nat.le_refl _) _
      refine ⟨(unhide H1).2.2.2.below hb, ?_, (unhide H1).1.below hb (unhide H1).1.lt, (unhide H1).2.1.below hb (unhide H1).2.1.lt, (unhide H1).2.2.1.trans (hb.mono (unhide H1).2.2.1.size), hg0, by omega, by omega⟩
      rw [← hgi]; exact World.iter_heap w2 (wantsS F) 0
    have H2 := hide hX0
    clear H1 e1 hX0
    generalize w2.iter (wantsS F) 0 = w3 at *
    generalize wc.heap.size = gc at *
    obtain ⟨M, hM⟩ : ∃ M, Hid (6 + ns.length + ss.length = M) := ⟨_, Lib.hid rfl⟩
    have hwl := wants_len ⟨k, by omega⟩
    simp only at hwl
    rw [hF.out] at hwl
    have HB := hide (And.intro hns (And.intro hop (And.intro hnz hsz))); clear hns hop hnz hsz
    go_loopw [4, 5, 6, 8] (fun o n t _ W => ∃ (j : Nat) (st : Nat × Nat × List ByteArray), j ≤ (wantsL F).length ∧ Hid (st = ((wantsL F).take j).foldl (stepW ⟨k, [a, b, c, d, e, f], ns, ss⟩) (0, 0, [F.wd])) ∧ n = .int .i64 (st.1 : Int) ∧ t = .int .i64 (st.2.1 : Int) ∧ Hid (st.1 ≤ j + ns.length ∧ st.2.1 ≤ j + ss.length ∧ st.2.2.length ≤ 1 + j * M) ∧ WdI w W gf g0 (gc + 1) F #[.int .i64 (k : Int), .slice A ns.length cA, .slice B ss.length cB, .int .i64 a, .int .i64 b, .int .i64 c, .int .i64 d, .int .i64 e, .int .i64 f] o st.2.2 j) (fun _ _ _ _ W => (wantsL F).length - W.iterPos (gc + 1))
    case atStart => exact ⟨0, (0, 0, [F.wd]), by omega, Lib.hid rfl, rfl, rfl, Lib.hid ⟨Nat.zero_le _, Nat.zero_le _, by simp⟩, unhide H2⟩
    case round =>
      obtain ⟨j, ⟨nu, te, out⟩, hj, hst, rfl, rfl, hbd, hX⟩ := hrel
      clear H2
      have hit := hX.it
      have hws : (wantsS F).size = (wantsL F).length := by show (wantsL F).toArray.size = _; rw [List.size_toArray]
      have hpos : Hid (wr.iterPos (gc + 1) = j) := Lib.hid (by simp [World.iterPos, hit])
      by_cases hp : j < (wantsS F).size
      · have hjl : j < (wantsL F).length := by omega
        obtain ⟨ch, hc⟩ : ∃ ch, Hid ((wantsL F)[j] = ch) := ⟨_, Lib.hid rfl⟩
        have hcin := wants_in (List.getElem_mem hjl)
        rw [hc.out] at hcin
        have hc128 : ch.toNat < 128 := by rcases hcin with rfl | rfl | rfl | rfl | rfl <;> decide
        have hd : Utf8.decode (wantsS F) j = (ch.toNat, 1) := by
          have h := decode_ascii (wantsS F) j hp (by show ((wantsL F)[j]).toNat < 128; rw [hc.out]; exact hc128)
          rw [h]
          show (((wantsL F)[j]).toNat, 1) = _
          rw [hc.out]
        have hnx : ∀ ty, (Instr.next (.pointer (some ⟨gc + 1, 0, none⟩)) true ty).run Try.prog wr = _ := fun ty => Lib.run_next_any_at wr (gc + 1) (wantsS F) j ty hit hp
        rw [hd] at hnx
        simp only at hnx
        have hst2 : Hid (stepW ⟨k, [a, b, c, d, e, f], ns, ss⟩ (nu, te, out) ch = ((wantsL F).take (j + 1)).foldl (stepW ⟨k, [a, b, c, d, e, f], ns, ss⟩) (0, 0, [F.wd])) := by
          rw [Hid, List.take_succ_eq_append_getElem hjl, List.foldl_append, ← hst.out, hc.out]
          rfl
        have hX1 := hX.next (j + 1)
        have hjM : Hid (j * M ≤ 7 * M ∧ (j + 1) * M = j * M + M ∧ M ≤ 1074790406 ∧ 6 + ns.length + ss.length = M ∧ nu ≤ j + ns.length ∧ te ≤ j + ss.length ∧ out.length ≤ 1 + j * M ∧ j + 1 ≤ (wantsL F).length ∧ (wantsL F).length ≤ 7) :=
          Lib.hid ⟨Nat.mul_le_mul_right M (by omega), Nat.succ_mul j M, by have := (unhide HB).2.2.1; have := sizeS_len ss; have := (unhide HB).2.2.2; have := hM.out; omega, hM.out, hbd.out.1, hbd.out.2.1, hbd.out.2.2, hjl, hwl⟩
        clear hX hbd hst hit hd hc128 hwl hj hjl hp hc hws
        generalize wr.iterAt (gc + 1) (wantsS F) (j + 1) = W1 at *
        have hN1 := (unhide HNS).1.below hX1.b
        have hS1 := (unhide HNS).2.below hX1.b
        have s1 := hX1.s.cell 1; have s2 := hX1.s.cell 2; have s3 := hX1.s.cell 3; have s4 := hX1.s.cell 4; have s5 := hX1.s.cell 5; have s6 := hX1.s.cell 6; have s7 := hX1.s.cell 7; have s8 := hX1.s.cell 8
        simp only [List.getElem?_toArray, List.getElem?_cons_zero, List.getElem?_cons_succ] at s1 s2 s3 s4 s5 s6 s7 s8
        have HX := hide (And.intro hX1 (And.intro hN1 hS1)); clear hX1 hN1 hS1
        rcases hcin with rfl | rfl | rfl | rfl | rfl
        · have hst3 : Hid (((wantsL F).take (j + 1)).foldl (stepW ⟨k, [a, b, c, d, e, f], ns, ss⟩) (0, 0, [F.wd]) = (nu + 1, te, out ++ [numS ns nu])) := by
            rw [Hid, ← hst2.out]; rfl
          clear hst2
          have hz : In64 (ns.getD nu 0) := getD_in (unhide HB).1 nu
          have hdec := fun W => dec_any (ns.getD nu 0) W hz.1 hz.2
          have HD := hide hdec; clear hdec hz s2 s3 s4 s5 s6 s7 s8
          have qb : nu ≤ 1099511627776 := by have := hjM.out; omega
          go_wp2_with fail
          refine (number_any _ ns nu _ (unhide HX).2.1).mono ?_
          rintro e1 w1 ⟨rfl, rfl⟩
          generalize hzz : ns.getD nu 0 = z at *
          have Hz := hide hzz; clear hzz
          go_wp2_with fail
          refine ((unhide HD) _).mono ?_
          rintro e2 w2' ⟨rfl, hb2⟩
          have HX2 := hide ((unhide HX).1.call hb2); clear hb2 HD
          go_wp2_with (first | (at_builtin; refine wpList_appT1 w2' rfl _ _ rfl (unhide HX2).own rfl rfl (by have := hjM.out; omega) (by have := (unhide HX2).f.lt; omega) ?_; intro v3 w3 hO3 hg3 hat3; have H3 := hide ((unhide HX2).app hO3 hg3); clear hO3 hg3 hat3))
          go_roundw
          case rel =>
            refine ⟨j + 1, (nu + 1, te, out ++ [decS z]), by have := hjM.out; omega, Lib.hid ?_, by go_num, rfl, Lib.hid ⟨?_, ?_, ?_⟩, unhide H3⟩
            · rw [hst3.out]; unfold numS; rw [unhide Hz]
            · have := hjM.out; simp only; omega
            · have := hjM.out; simp only; omega
            · have := hjM.out; simp only [List.length_append, List.length_singleton]; omega
          case measure =>
            rw [hpos.out, iterPos_of (unhide H3).it]; have := hjM.out; omega
        · have hst3 : Hid (((wantsL F).take (j + 1)).foldl (stepW ⟨k, [a, b, c, d, e, f], ns, ss⟩) (0, 0, [F.wd]) = (nu, te + 1, out ++ [txtS ss te])) := by
            rw [Hid, ← hst2.out]; rfl
          clear hst2
          have hz := getD_size ss te
          have hesc := fun W => escape_any (ss.getD te ⟨#[]⟩) W (by have := (unhide HB).2.2.2; omega)
          have HD := hide hesc; clear hesc hz s1 s3 s4 s5 s6 s7 s8
          have qb : te ≤ 1099511627776 := by have := hjM.out; omega
          go_wp2_with fail
          refine (word_any _ ss te _ (unhide HX).2.2).mono ?_
          rintro e1 w1 ⟨rfl, rfl⟩
          generalize hzz : ss.getD te ⟨#[]⟩ = z at *
          have Hz := hide hzz; clear hzz
          go_wp2_with fail
          refine ((unhide HD) _).mono ?_
          rintro e2 w2' ⟨rfl, hb2⟩
          have HX2 := hide ((unhide HX).1.call hb2); clear hb2 HD
          go_wp2_with (first | (at_builtin; refine wpList_appT1 w2' rfl _ _ rfl (unhide HX2).own rfl rfl (by have := hjM.out; omega) (by have := (unhide HX2).f.lt; omega) ?_; intro v3 w3 hO3 hg3 hat3; have H3 := hide ((unhide HX2).app hO3 hg3); clear hO3 hg3 hat3))
          go_roundw
          case rel =>
            refine ⟨j + 1, (nu, te + 1, out ++ [escS z]), by have := hjM.out; omega, Lib.hid ?_, rfl, by go_num, Lib.hid ⟨?_, ?_, ?_⟩, unhide H3⟩
            · rw [hst3.out]; unfold txtS; rw [unhide Hz]
            · have := hjM.out; simp only; omega
            · have := hjM.out; simp only; omega
            · have := hjM.out; simp only [List.length_append, List.length_singleton]; omega
          case measure =>
            rw [hpos.out, iterPos_of (unhide H3).it]; have := hjM.out; omega
        · have hst3 : Hid (((wantsL F).take (j + 1)).foldl (stepW ⟨k, [a, b, c, d, e, f], ns, ss⟩) (0, 0, [F.wd]) = (nu, te, out ++ [a, b, c, d, e, f].map decS)) := by
            rw [Hid, ← hst2.out]; rfl
          clear hst2
          have hnm := fun W => numbers_any a b c d e f W
          have HD := hide hnm; clear hnm
          go_wp2_with fail
          refine ((unhide HD) _).mono ?_
          rintro e1 w1 ⟨gn, rfl, hgn, hBn, hb2⟩
          obtain ⟨L, hL⟩ : ∃ L, Hid ([a, b, c, d, e, f] = L) := ⟨_, Lib.hid rfl⟩
          have hL6 : Hid (L.length = 6) := Lib.hid (by rw [← hL.out]; rfl)
          have hBL : Blk w1 gn 3 (L.map (Value.int .i64)).toArray := by rw [← hL.out]; exact hBn
          have hLi : Hid (∀ n ∈ L, In64 n) := Lib.hid (by rw [← hL.out]; exact (unhide HB).2.1)
          have HX2 := hide (And.intro ((unhide HX).1.call hb2) hBL)
          clear hb2 HD hBn hBL hgn HX s1 s2 s3 s4 s5 s6 s7 s8
          obtain ⟨wo, hwo⟩ : ∃ wo : World, Hid (wo = wr) := ⟨_, Lib.hid rfl⟩
          go_wp2_with fail
          go_loopw [4, 10, 55] (fun o _ i W => ∃ q : Nat, q ≤ 6 ∧ i = .int .i64 (q : Int) ∧ WdI w W gf g0 (gc + 1) F #[.int .i64 (k : Int), .slice A ns.length cA, .slice B ss.length cB, .int .i64 a, .int .i64 b, .int .i64 c, .int .i64 d, .int .i64 e, .int .i64 f] o (out ++ (L.take q).map decS) (j + 1) ∧ Blk W gn 3 (L.map (Value.int .i64)).toArray) (fun _ _ i _ => 6 - (RowKit.intOf i).toNat)
          case atStart => exact ⟨0, by omega, rfl, by simpa using (unhide HX2).1, (unhide HX2).2⟩
          case round =>
            obtain ⟨q, hq, rfl, hXq, hBq⟩ := hrel
            clear HX2
            have HXQ := hide (And.intro hXq hBq)
            by_cases hq6 : q < 6
            · have t1 : (q : Int) < 6 := by omega
              have hqL : q < L.length := by have := hL6.out; omega
              have hcl := hBq.cell q
              simp only [List.getElem?_toArray, List.getElem?_map, List.getElem?_eq_getElem hqL, Option.map_some] at hcl
              have hz := hLi.out _ (List.getElem_mem hqL)
              have htk : Hid (out ++ (L.take (q + 1)).map decS = out ++ (L.take q).map decS ++ [decS L[q]]) := Lib.hid (by rw [List.take_succ_eq_append_getElem hqL, List.map_append, List.append_assoc]; rfl)
              have hlen : Hid ((out ++ (L.take q).map decS).length = out.length + q) := Lib.hid (by rw [List.length_append, List.length_map, List.length_take]; have := hL6.out; omega)
              generalize L[q] = z at *
              have hdec := fun W => dec_any z W hz.1 hz.2
              have HD := hide hdec; clear hdec hz hXq hBq hqL
              go_wp2_with fail
              refine ((unhide HD) _).mono ?_
              rintro e2 w2' ⟨rfl, hb2⟩
              have HX2 := hide ((unhide HXQ).1.call hb2)
              have HB2 := hide ((unhide HXQ).2.below hb2 (unhide HXQ).2.lt)
              clear hb2 HD
              go_wp2_with (first | (at_builtin; refine wpList_appT1 w2' rfl _ _ rfl (unhide HX2).own rfl rfl (by have := hjM.out; have := hlen.out; omega) (by have := (unhide HX2).f.lt; omega) ?_; intro v3 w3 hO3 hg3 hat3; have H3 := hide ((unhide HX2).app hO3 hg3); have H4 := hide (blk_appT (unhide HB2) (unhide HX2).own (by decide) hg3); clear hO3 hg3 hat3))
              refine ⟨⟨q + 1, by omega, by go_num, ?_, unhide H4⟩, by simp [RowKit.intOf]; omega⟩
              rw [htk.out]; exact unhide H3
            · obtain rfl : q = 6 := by omega
              have htk : Hid (out ++ (L.take 6).map decS = out ++ L.map decS) := Lib.hid (by rw [List.take_of_length_le (by have := hL6.out; omega)])
              have hlen : Hid ((out ++ L.map decS).length = out.length + 6) := Lib.hid (by rw [List.length_append, List.length_map]; have := hL6.out; omega)
              rw [htk.out] at hXq
              have H3 := hide hXq
              clear hXq hBq HXQ
              go_wp2_with fail
              go_roundw
              case rel =>
                refine ⟨j + 1, (nu, te, out ++ L.map decS), by have := hjM.out; omega, Lib.hid ?_, rfl, rfl, Lib.hid ⟨?_, ?_, ?_⟩, unhide H3⟩
                · rw [hst3.out, hL.out]
                · have := hjM.out; simp only; omega
                · have := hjM.out; simp only; omega
                · have := hjM.out; have := hlen.out; simp only; omega
              case measure =>
                rw [hpos.out, iterPos_of (unhide H3).it]; have := hjM.out; omega
        · have hst3 : Hid (((wantsL F).take (j + 1)).foldl (stepW ⟨k, [a, b, c, d, e, f], ns, ss⟩) (0, 0, [F.wd]) = (max nu ns.length, te, out ++ (ns.drop nu).map decS)) := by
            rw [Hid, ← hst2.out]; rfl
          clear hst2 s1 s2 s3 s4 s5 s6 s7 s8
          obtain ⟨wo, hwo⟩ : ∃ wo : World, Hid (wo = wr) := ⟨_, Lib.hid rfl⟩
          go_wp2_with fail
          go_loopw [4, 5] (fun o i W => ∃ q : Nat, nu ≤ q ∧ (q ≤ ns.length ∨ q = nu) ∧ i = .int .i64 (q : Int) ∧ WdI w W gf g0 (gc + 1) F #[.int .i64 (k : Int), .slice A ns.length cA, .slice B ss.length cB, .int .i64 a, .int .i64 b, .int .i64 c, .int .i64 d, .int .i64 e, .int .i64 f] o (out ++ ((ns.drop nu).take (q - nu)).map decS) (j + 1)) (fun _ i _ => ns.length - (RowKit.intOf i).toNat)
          case atStart => exact ⟨nu, by omega, .inr rfl, rfl, by simpa using (unhide HX).1⟩
          case round =>
            obtain ⟨q, hq, hq2, rfl, hXq⟩ := hrel
            clear HX
            have s1 := hXq.s.cell 1
            simp only [List.getElem?_toArray, List.getElem?_cons_zero, List.getElem?_cons_succ] at s1
            have HXQ := hide hXq
            by_cases hql : q < ns.length
            · have t1 : (q : Int) < (ns.length : Int) := by omega
              have t0 : (0 : Int) ≤ (q : Int) := by omega
              have qb : q ≤ 1099511627776 := by have := hjM.out; omega
              obtain ⟨ad, rfl, hca⟩ : ∃ ad, A = some ad ∧ wr.cell? (ad.add q) = some (.int .i64 ns[q]) := by
                obtain ⟨A', c', hv, he⟩ := (unhide HNS).1.below hXq.b
                injection hv with e1 e2 e3
                subst e1
                exact he q hql
              have hz : In64 ns[q] := (unhide HB).1 _ (List.getElem_mem hql)
              have htk : Hid (out ++ ((ns.drop nu).take (q + 1 - nu)).map decS = out ++ ((ns.drop nu).take (q - nu)).map decS ++ [decS ns[q]]) := Lib.hid (drop_next ns decS out nu q hq hql)
              have hlen : Hid ((out ++ ((ns.drop nu).take (q - nu)).map decS).length ≤ out.length + ns.length) := Lib.hid (by rw [List.length_append, List.length_map, List.length_take, List.length_drop]; omega)
              generalize ns[q] = z at *
              have hdec := fun W => dec_any z W hz.1 hz.2
              have HD := hide hdec; clear hdec hz hXq
              go_wp2_with fail
              refine ((unhide HD) _).mono ?_
              rintro e2 w2' ⟨rfl, hb2⟩
              have HX2 := hide ((unhide HXQ).call hb2)
              clear hb2 HD
              go_wp2_with (first | (at_builtin; refine wpList_appT1 w2' rfl _ _ rfl (unhide HX2).own rfl rfl (by have := hjM.out; have := hlen.out; omega) (by have := (unhide HX2).f.lt; omega) ?_; intro v3 w3 hO3 hg3 hat3; have H3 := hide ((unhide HX2).app hO3 hg3); clear hO3 hg3 hat3))
              refine ⟨⟨q + 1, by omega, .inl (by omega), by go_num, ?_⟩, by simp [RowKit.intOf]; omega⟩
              rw [htk.out]; exact unhide H3
            · have t1 : ¬ (q : Int) < (ns.length : Int) := by omega
              have hmx : Hid (max nu ns.length = q) := Lib.hid (by omega)
              have htk : Hid (out ++ ((ns.drop nu).take (q - nu)).map decS = out ++ (ns.drop nu).map decS) := Lib.hid (by rw [List.take_of_length_le (by rw [List.length_drop]; omega)])
              have hlen : Hid ((out ++ (ns.drop nu).map decS).length ≤ out.length + ns.length) := Lib.hid (by rw [List.length_append, List.length_map, List.length_drop]; omega)
              rw [htk.out] at hXq
              have H3 := hide hXq
              clear hXq HXQ
              go_wp2_with fail
              go_roundw
              case rel =>
                refine ⟨j + 1, (q, te, out ++ (ns.drop nu).map decS), by have := hjM.out; omega, Lib.hid ?_, rfl, rfl, Lib.hid ⟨?_, ?_, ?_⟩, unhide H3⟩
                · rw [hst3.out, hmx.out]
                · have := hjM.out; have := hmx.out; simp only; omega
                · have := hjM.out; have := hmx.out; simp only; omega
                · have := hjM.out; have := hlen.out; simp only; omega
              case measure =>
                rw [hpos.out, iterPos_of (unhide H3).it]; have := hjM.out; omega
        · have hst3 : Hid (((wantsL F).take (j + 1)).foldl (stepW ⟨k, [a, b, c, d, e, f], ns, ss⟩) (0, 0, [F.wd]) = (nu, max te ss.length, out ++ (ss.drop te).map escS)) := by
            rw [Hid, ← hst2.out]; rfl
          clear hst2 s1 s2 s3 s4 s5 s6 s7 s8
          obtain ⟨wo, hwo⟩ : ∃ wo : World, Hid (wo = wr) := ⟨_, Lib.hid rfl⟩
          go_wp2_with fail
          go_loopw [4, 6] (fun o i W => ∃ q : Nat, te ≤ q ∧ (q ≤ ss.length ∨ q = te) ∧ i = .int .i64 (q : Int) ∧ WdI w W gf g0 (gc + 1) F #[.int .i64 (k : Int), .slice A ns.length cA, .slice B ss.length cB, .int .i64 a, .int .i64 b, .int .i64 c, .int .i64 d, .int .i64 e, .int .i64 f] o (out ++ ((ss.drop te).take (q - te)).map escS) (j + 1)) (fun _ i _ => ss.length - (RowKit.intOf i).toNat)
          case atStart => exact ⟨te, by omega, .inr rfl, rfl, by simpa using (unhide HX).1⟩
          case round =>
            obtain ⟨q, hq, hq2, rfl, hXq⟩ := hrel
            clear HX
            have s1 := hXq.s.cell 2
            simp only [List.getElem?_toArray, List.getElem?_cons_zero, List.getElem?_cons_succ] at s1
            have HXQ := hide hXq
            by_cases hql : q < ss.length
            · have t1 : (q : Int) < (ss.length : Int) := by omega
              have t0 : (0 : Int) ≤ (q : Int) := by omega
              have qb : q ≤ 1099511627776 := by have := hjM.out; omega
              obtain ⟨ad, rfl, hca⟩ : ∃ ad, B = some ad ∧ wr.cell? (ad.add q) = some (.string ss[q]) := by
                obtain ⟨A', c', hv, he⟩ := (unhide HNS).2.below hXq.b
                injection hv with e1 e2 e3
                subst e1
                exact he q hql
              have hz : ss[q].size ≤ 1048576 := Nat.le_trans (sizeS_mem (List.getElem_mem hql)) (unhide HB).2.2.2
              have htk : Hid (out ++ ((ss.drop te).take (q + 1 - te)).map escS = out ++ ((ss.drop te).take (q - te)).map escS ++ [escS ss[q]]) := Lib.hid (drop_next ss escS out te q hq hql)
              have hlen : Hid ((out ++ ((ss.drop te).take (q - te)).map escS).length ≤ out.length + ss.length) := Lib.hid (by rw [List.length_append, List.length_map, List.length_take, List.length_drop]; omega)
              generalize ss[q] = z at *
              have hdec := fun W => escape_any z W (by omega)
              have HD := hide hdec; clear hdec hz hXq
              go_wp2_with fail
              refine ((unhide HD) _).mono ?_
              rintro e2 w2' ⟨rfl, hb2⟩
              have HX2 := hide ((unhide HXQ).call hb2)
              clear hb2 HD
              go_wp2_with (first | (at_builtin; refine wpList_appT1 w2' rfl _ _ rfl (unhide HX2).own rfl rfl (by have := hjM.out; have := hlen.out; omega) (by have := (unhide HX2).f.lt; omega) ?_; intro v3 w3 hO3 hg3 hat3; have H3 := hide ((unhide HX2).app hO3 hg3); clear hO3 hg3 hat3))
              refine ⟨⟨q + 1, by omega, .inl (by omega), by go_num, ?_⟩, by simp [RowKit.intOf]; omega⟩
              rw [htk.out]; exact unhide H3
            · have t1 : ¬ (q : Int) < (ss.length : Int) := by omega
              have hmx : Hid (max te ss.length = q) := Lib.hid (by omega)
              have htk : Hid (out ++ ((ss.drop te).take (q - te)).map escS = out ++ (ss.drop te).map escS) := Lib.hid (by rw [List.take_of_length_le (by rw [List.length_drop]; omega)])
              have hlen : Hid ((out ++ (ss.drop te).map escS).length ≤ out.length + ss.length) := Lib.hid (by rw [List.length_append, List.length_map, List.length_drop]; omega)
              rw [htk.out] at hXq
              have H3 := hide hXq
              clear hXq HXQ
              go_wp2_with fail
              go_roundw
              case rel =>
                refine ⟨j + 1, (nu, q, out ++ (ss.drop te).map escS), by have := hjM.out; omega, Lib.hid ?_, rfl, rfl, Lib.hid ⟨?_, ?_, ?_⟩, unhide H3⟩
                · rw [hst3.out, hmx.out]
                · have := hjM.out; have := hmx.out; simp only; omega
                · have := hjM.out; have := hmx.out; simp only; omega
                · have := hjM.out; have := hlen.out; simp only; omega
              case measure =>
                rw [hpos.out, iterPos_of (unhide H3).it]; have := hjM.out; omega
      · have hnx : ∀ ty, (Instr.next (.pointer (some ⟨gc + 1, 0, none⟩)) true ty).run Try.prog wr = _ := fun ty => Lib.run_next_end_at wr (gc + 1) (wantsS F) j ty hit hp
        have hres : Hid (out = wordsP F ⟨k, [a, b, c, d, e, f], ns, ss⟩) := by
          have h := hst.out
          rw [List.take_of_length_le (by omega)] at h
          exact congrArg (fun x => x.2.2) h
        obtain ⟨Ao, co, rfl⟩ := own_slice hX.own
        have HZ := hide hX; clear hX hit hst hbd
        go_wp2_with fail
        go_ret
        refine ⟨_, rfl, ?_, ?_⟩
        · rw [hF.out, ← hres.out]
          exact own_mono (unhide HZ).own (by omega)
        · first | exact (unhide HZ).b | (rw [← hg0]; exact (unhide HZ).b)
end Go.Proofs.Ytaomecinemmdgaa

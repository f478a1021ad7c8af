/-
  CONTRACTS of front.Ask and annalsref27.Ask.
-/
import Derived.Test.YtnkioabdpploeaaGreatDoorRows
import Derived.Deep.RegionHeld3
import Derived.Laws.EntriesVeiled
import Derived.Test.YtnkioabdpploeaaGreatDoorGBase
import Derived.Test.YtnkioabdpploeaaGreatDoorSReq
import Derived.Test.YtnkioabdpploeaaGreatDoorSFLine
import Derived.Test.YtnkioabdpploeaaGreatDoorSRJoined
import Derived.Test.YtnkioabdpploeaaGreatDoorSCalA
set_option linter.unusedVariables false
set_option linter.unusedSimpArgs false
namespace Go.Proofs.YtnkioabdpploeaaGreatDoor
open Go.RowKit Go.Lib
/-- A call whose numbers are numbers and whose texts are not too long. -/
structure CcOk (r : CaR) : Prop where
  n : ∀ z ∈ r.ns, In64 z
  s : ∀ x ∈ r.ss, x.size ≤ 1099511627776
theorem fcallV_no {r : CaR} (h : ¬ CaOk r) : fcallV r = .tuple #[.string ⟨#[]⟩, .int .i64 270] := by unfold fcallV; rw [if_neg h, if_neg h]
theorem fcallV_ok {r : CaR} (h : CaOk r) : fcallV r = .tuple #[.string (callB r), .int .i64 0] := by unfold fcallV; rw [if_pos h, if_pos h]
theorem caok_iff {nm : ByteArray} {ns : List Int} {ss : List ByteArray} {k m : Nat} (h : shapeS nm = some (k, m)) : CaOk ⟨nm, ns, ss⟩ ↔ (k = ns.length ∧ m = ss.length) := by
  unfold CaOk
  simp only [h, Option.some.injEq, Prod.mk.injEq]
theorem caok_none {nm : ByteArray} {ns : List Int} {ss : List ByteArray} (h : shapeS nm = none) : ¬ CaOk ⟨nm, ns, ss⟩ := by
  unfold CaOk
  simp only [h]
  simp
/-- Behind the look for the shape: the argument's box, the shape's box. -/
structure ShX (w W : World) (g : Nat) (cs : Array Value) (k m : Nat) (fv : Value) : Prop where
  t : TXc w W cs
  r : Blk W g 52 #[.int .i64 (k : Int), .int .i64 (m : Int), fv]
theorem shx_A {w W : World} {cs : Array Value} {k m : Nat} {fv : Value} (h : TXc w W cs) (o : Obj) : ShX w ((W.alloc o).alloc (.cells #[.int .i64 (k : Int), .int .i64 (m : Int), fv] 52)).drew (W.heap.size + 1) cs k m fv :=
  ⟨((h.alloc _).alloc _).drew, by have h2 := Blk.new (W.alloc o) 52 #[.int .i64 (k : Int), .int .i64 (m : Int), fv]; rw [World.size_alloc] at h2; exact h2⟩
theorem shx_B {w W : World} {cs : Array Value} {k m : Nat} {fv : Value} (h : TXc w W cs) (o : Obj) : ShX w ((W.alloc (.cells #[.int .i64 (k : Int), .int .i64 (m : Int), fv] 52)).alloc o).drew W.heap.size cs k m fv :=
  ⟨((h.alloc _).alloc _).drew, (Blk.new _ _ _).alloc o⟩
abbrev reqZ : Obj := .cells #[.int .i64 0, .int .i64 0, .nilFunc] 52
theorem map_next {W : World} {es : Array MapEntry} {n : Nat} (o : Obj) : ((W.alloc (.map es n)).alloc o).heap[W.heap.size]? = some (.map es n) :=
  (Below.heap_alloc _ o W.heap.size (by simp)).trans (heap_alloc_new _ _)
set_option maxRecDepth 100000 in
set_option maxHeartbeats 2000000 in
theorem fcall_any (r : CaR) (vn vs : Value) (w : World) (hN : IntsAt w vn r.ns) (hS : StrsAt w vs r.ss) (hok : CcOk r) (hnl : r.ns.length ≤ 1099511627776) (hsl : r.ss.length ≤ 1099511627776) :
    Calls Tryz.prog 8 #[.agg #[.string r.nm, vn, vs]] w fun e w' => e = .returned (fcallV r) ∧ Below w.heap.size w w' := by
  obtain ⟨A, c, rfl, -⟩ := id hN
  obtain ⟨B, d, rfl, -⟩ := id hS
  obtain ⟨nm, ns, ss⟩ := r
  simp only at *
  have hX : TXc w (w.alloc (.cells #[.string nm, .slice A ns.length c, .slice B ss.length d] 25)) #[.string nm, .slice A ns.length c, .slice B ss.length d] := ⟨(Below.refl _ _).alloc (Nat.le_refl _) _, Blk.new _ _ _⟩
  obtain ⟨k, m, ok, fv, hsh, hk2, hm1, hfv, hlk⟩ := look_req nm
  have H0 := hide hX; have HLK := hide hlk; have HN := hide (And.intro hN (And.intro hS hok)); have HSH := Lib.hid hsh
  clear hX hlk hN hS hok hsh
  go_enter Tryz.func8, Tryz.ntmps8
  go_upto_region 1 with fail
  have c0 := (unhide H0).x.cell 0; have c1 := (unhide H0).x.cell 1; have c2 := (unhide H0).x.cell 2
  simp only [List.getElem?_toArray, List.getElem?_cons_zero, List.getElem?_cons_succ] at c0 c1 c2
  generalize (w.alloc (.cells #[.string nm, .slice A ns.length c, .slice B ss.length d] 25)) = w0 at *
  have n0 : w.heap.size ≠ w0.heap.size := by have := (unhide H0).x.lt; omega
  have hlt0 : w.heap.size < w0.heap.size := (unhide H0).x.lt
  go_cut [4, 5] (fun s4 s5 wx => ∃ g, s4 = .pointer (some ⟨g, 0, none⟩) ∧ s5 = .bool ok ∧ Hid (ShX w wx g #[.string nm, .slice A ns.length c, .slice B ss.length d] k m fv))
  case first =>
    have n0' := n0.symm
    rcases hfv with rfl | ⟨nf, rfl⟩
    all_goals
      go_region_held3 (fun W => W.cell? ⟨w.heap.size, 0, none⟩ = some (.string nm)) (first | assumption | go_keep) (first
        | (go_at_call 19; (with_reducible refine (requests_any w0.drew).mono ?_)
           rintro e W1 ⟨rfl, rfl⟩
           have a0 : (w0.alloc (.map reqE9 9)).drew.cell? ⟨w.heap.size, 0, none⟩ = some (.string nm) := (World.cell?_alloc_lt w0 (.map reqE9 9) ⟨w.heap.size, 0, none⟩ hlt0).trans c0
           have l1 := (unhide HLK) (w0.alloc (.map reqE9 9)).drew w0.heap.size (heap_alloc_new w0 _)
           have l2 := (unhide HLK) ((w0.alloc (.map reqE9 9)).alloc reqZ).drew w0.heap.size (map_next (W := w0) reqZ))
        | (go_at_call 19; (with_reducible refine (requests_any (w0.alloc reqZ).drew).mono ?_)
           rintro e W1 ⟨rfl, rfl⟩
           have l3 := (unhide HLK) ((w0.alloc reqZ).alloc (.map reqE9 9)).drew (w0.heap.size + 1) (by have h := heap_alloc_new (w0.alloc reqZ) (.map reqE9 9); rw [World.size_alloc] at h; exact h)))
    all_goals
      go_wp2_with fail
      go_meet
      case rel => first
        | exact ⟨_, rfl, rfl, Lib.hid (shx_A (unhide H0) _)⟩
        | exact ⟨_, rfl, rfl, Lib.hid (shx_B (unhide H0) _)⟩
  case rest =>
    obtain ⟨g, rfl, rfl, hX⟩ := hcut
    have HX := hide hX.out
    have e0 := hX.out.t.x.cell 0; have e1 := hX.out.t.x.cell 1; have e2 := hX.out.t.x.cell 2
    have r0 := hX.out.r.cell 0; have r1 := hX.out.r.cell 1
    simp only [List.getElem?_toArray, List.getElem?_cons_zero, List.getElem?_cons_succ] at e0 e1 e2 r0 r1
    clear hX c0 c1 c2 H0 HLK n0 hlt0 hfv
    rcases HSH.out with ⟨rfl, hs⟩ | ⟨rfl, hs⟩
    · by_cases hk : k = ns.length
      · by_cases hm : m = ss.length
        · have hco : CaOk ⟨nm, ns, ss⟩ := (caok_iff hs).2 ⟨hk, hm⟩
          have t1 : ((ns.length : Int) != (k : Int)) = false := by rw [hk]; simp
          have t2 : ((ss.length : Int) != (m : Int)) = false := by rw [hm]; simp
          have t3 : (ns.length : Int) = (k : Int) := by rw [hk]
          have t4 : (ss.length : Int) = (m : Int) := by rw [hm]
          have hzz := call_size hco (unhide HN).2.2.n 1099511627776 (unhide HN).2.2.s
          have hln := fline_any (.slice (some ⟨wc.heap.size, 0, none⟩) 1 1) [nm] (.slice A ns.length c) (.slice B ss.length d) ns ss wc (wc.alloc (.cells #[.string nm] 9)) (World.ownsRow_lit wc #[.string nm] 1 (Nat.le_refl _) (by simp [maxLen]) rfl) ((Below.refl _ _).alloc (Nat.le_refl _) _) ((unhide HN).1.below (unhide HX).t.b) ((unhide HN).2.1.below (unhide HX).t.b) (by simp) (unhide HN).2.2.n (unhide HN).2.2.s (by simp; omega) (by show (joinSp (callW ⟨nm, ns, ss⟩)).length ≤ _; omega)
          have hr : Hid (fcallV ⟨nm, ns, ss⟩ = .tuple #[.string (callB ⟨nm, ns, ss⟩), .int .i64 0]) := Lib.hid (fcallV_ok hco)
          rw [show bsL (joinSp ([nm] ++ ns.map decS ++ ss.map escS)) = callB ⟨nm, ns, ss⟩ from rfl] at hln
          generalize callB ⟨nm, ns, ss⟩ = T at *
          have HL := hide hln
          have q1 := (World.cell?_alloc_lt wc (.cells #[.string nm] 9) ⟨w.heap.size, 1, none⟩ (unhide HX).t.x.lt).trans e1
          have q2 := (World.cell?_alloc_lt wc (.cells #[.string nm] 9) ⟨w.heap.size, 2, none⟩ (unhide HX).t.x.lt).trans e2
          clear hln hzz hco hs hk hm HN
          go_wp2_with fail
          refine (unhide HL).mono ?_
          rintro e W3 ⟨rfl, hb3⟩
          have H3 := hide ((unhide HX).t.b.trans (hb3.mono (unhide HX).t.b.size))
          clear HL hb3
          go_wp2_with fail
          go_ret2
          exact ⟨hr.out.symm ▸ rfl, unhide H3⟩
        · have hco : Hid (fcallV ⟨nm, ns, ss⟩ = .tuple #[.string ⟨#[]⟩, .int .i64 270]) := Lib.hid (fcallV_no (fun h => hm ((caok_iff hs).1 h).2))
          have t1 : ((ns.length : Int) != (k : Int)) = false := by rw [hk]; simp
          have t2 : ((ss.length : Int) != (m : Int)) = true := by rw [bne_iff_ne]; omega
          have t3 : (ns.length : Int) = (k : Int) := by rw [hk]
          have t4 : ¬ (ss.length : Int) = (m : Int) := by omega
          clear hs hk hm HN
          go_wp2_with fail
          go_ret2
          exact ⟨hco.out.symm ▸ rfl, (unhide HX).t.b⟩
      · have hco : Hid (fcallV ⟨nm, ns, ss⟩ = .tuple #[.string ⟨#[]⟩, .int .i64 270]) := Lib.hid (fcallV_no (fun h => hk ((caok_iff hs).1 h).1))
        have t1 : ((ns.length : Int) != (k : Int)) = true := by rw [bne_iff_ne]; omega
        have t3 : ¬ (ns.length : Int) = (k : Int) := by omega
        clear hs hk HN
        go_wp2_with fail
        go_ret2
        exact ⟨hco.out.symm ▸ rfl, (unhide HX).t.b⟩
    · have hco : Hid (fcallV ⟨nm, ns, ss⟩ = .tuple #[.string ⟨#[]⟩, .int .i64 270]) := Lib.hid (fcallV_no (caok_none hs))
      clear hs HN
      go_wp2_with fail
      go_ret2
      exact ⟨hco.out.symm ▸ rfl, (unhide HX).t.b⟩
end Go.Proofs.YtnkioabdpploeaaGreatDoor

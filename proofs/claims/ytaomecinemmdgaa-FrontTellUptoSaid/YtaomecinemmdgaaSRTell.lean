/-
  CONTRACT of annalsref27.Tell.
-/
import Derived.Test.YtaomecinemmdgaaRows
import Derived.Test.YtaomecinemmdgaaGBase
import Derived.Test.YtaomecinemmdgaaSRJoined
set_option linter.unusedVariables false
set_option linter.unusedSimpArgs false
namespace Go.Proofs.Ytaomecinemmdgaa
open Go.RowKit Go.Lib
/-- A reply whose line is not too long. -/
structure RpOk (r : RpR) : Prop where
  c : In64 r.c
  n : ∀ z ∈ r.ns, In64 z
  s : ∀ x ∈ r.ss, x.size ≤ 1099511627776
  l : r.ns.length + r.ss.length ≤ 1099511627000
  z : (tellB r).size ≤ 140737488355328
theorem tellB_eq (r : RpR) : tellB r = lnJ (decS r.c ++ ⟨#[32]⟩ ++ decS r.ns.length) (r.ns.map decS ++ r.ss.map escS) := by
  rw [← lnJ_one, ← lnJ_app]
  apply bs_eq
  show joinSp (tellW r) = (decS r.c).data.toList ++ spaced _
  unfold tellW
  rw [joinSp_cons]; rfl
set_option maxRecDepth 100000 in
set_option maxHeartbeats 1000000 in
theorem rtell_any (r : RpR) (vn vs : Value) (w : World) (hN : IntsAt w vn r.ns) (hS : StrsAt w vs r.ss) (hok : RpOk r) :
    Calls Try.prog 16 #[.agg #[.int .i64 r.c, vn, vs]] w fun e w' => e = .returned (.string (tellB r)) ∧ Below w.heap.size w w' := by
  have e32 : (⟨#[32]⟩ : ByteArray).size = 1 := rfl
  obtain ⟨cc, hcc⟩ : ∃ cc, Hid (cc = w.alloc (.cells #[.int .i64 r.c, vn, vs] 30)) := ⟨_, Lib.hid rfl⟩
  have hb0 : Below w.heap.size w (w.alloc (.cells #[.int .i64 r.c, vn, vs] 30)) := (Below.refl _ _).alloc (Nat.le_refl _) _
  have hsz := hok.z
  rw [tellB_eq, lnJ_size, ByteArray.size_append, ByteArray.size_append, e32] at hsz
  have hln := hok.l
  have hd1 := rdec_any r.c (w.alloc (.cells #[.int .i64 r.c, vn, vs] 30)) hok.c.1 hok.c.2
  have hd2 := rdec_any (r.ns.length : Int) (w.alloc (.cells #[.int .i64 r.c, vn, vs] 30)) (by omega) (by omega)
  have hj := rjoined_any (decS r.c ++ ⟨#[32]⟩ ++ decS r.ns.length) vn vs r.ns r.ss _ (hN.below hb0) (hS.below hb0) hok.n hok.s (by omega) (by rw [ByteArray.size_append, ByteArray.size_append, e32]; omega)
  rw [← tellB_eq] at hj
  have h1 : (decS r.c).size ≤ 20 := decS_size hok.c
  have h2 : (decS r.ns.length).size ≤ 20 := decS_size ⟨by omega, by omega⟩
  obtain ⟨A, c, rfl, -⟩ := id hN
  obtain ⟨B, d, rfl, -⟩ := id hS
  have HD := hide (And.intro hd1 (And.intro hd2 hj)); have HB := hide hb0
  clear hd1 hd2 hj hb0 hN hS hok hsz hcc
  obtain ⟨rc, rn, rs⟩ := r
  simp only at *
  generalize tellB ⟨rc, rn, rs⟩ = T at *
  generalize hX : decS rc = X at *
  generalize hY : decS (rn.length : Int) = Y at *
  have y1 : ¬ 9223372036854775807 < X.size + 1 := by omega
  have y2 : ¬ 9223372036854775807 < X.size + 1 + Y.size := by omega
  have y3 : ¬ 9223372036854775807 < (X ++ ⟨#[32]⟩ : ByteArray).size + Y.size := by rw [ByteArray.size_append, e32]; exact y2
  clear hX hY h1 h2 e32
  go_enter Try.func16, Try.ntmps16
  go_wp2_with fail
  refine (unhide HD).1.mono ?_
  rintro e1 w1 ⟨rfl, rfl⟩
  go_wp2_with fail
  refine (unhide HD).2.1.mono ?_
  rintro e1 w1 ⟨rfl, rfl⟩
  go_wp2_with fail
  refine (unhide HD).2.2.mono ?_
  rintro e1 w1 ⟨rfl, hb1⟩
  have H1 := hide ((unhide HB).trans (hb1.mono (unhide HB).size)); clear hb1 HB HD
  go_wp2_with fail
  go_ret
  exact ⟨rfl, unhide H1⟩
end Go.Proofs.Ytaomecinemmdgaa

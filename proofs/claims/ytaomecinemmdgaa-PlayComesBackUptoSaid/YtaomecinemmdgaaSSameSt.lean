/-
  CONTRACTS of the law's sameInts, sameWords, sameSteps, on equal lists.
-/
import Derived.Test.YtaomecinemmdgaaRows
import Derived.BigQuiet
import Derived.Deep.QuietTactic
import Derived.Test.YtaomecinemmdgaaGBase
import Derived.Test.YtaomecinemmdgaaGLns
import Derived.Test.YtaomecinemmdgaaSRScript
import Derived.Test.YtaomecinemmdgaaSTWords
import Derived.Test.YtaomecinemmdgaaSRStep
set_option linter.unusedVariables false
set_option linter.unusedSimpArgs false
namespace Go.Proofs.Ytaomecinemmdgaa
open Go.RowKit Go.Lib
set_option maxRecDepth 100000 in
set_option maxHeartbeats 2000000 in
theorem sameInts_eq (v1 v2 : Value) (l : List Int) (w : World) (hn : l.length ≤ 562949953421312) (h1 : IntsAt w v1 l) (h2 : IntsAt w v2 l) :
    Calls Try.prog 48 #[v1, v2] w fun e w' => e = .returned (.bool true) ∧ ∃ n, w' = w.drewN n := by
  obtain ⟨A, c, rfl, -⟩ := id h1
  obtain ⟨B, d, rfl, -⟩ := id h2
  have H := hide (And.intro h1 h2); clear h1 h2
  go_enter Try.func48, Try.ntmps48
  go_wp2_with fail
  go_loopw [5] (fun i wr => ∃ k : Nat, i = .int .i64 (k : Int) ∧ k ≤ l.length ∧ ∃ nd, Hid (wr = w.drewN nd)) (fun i _ => l.length - (RowKit.intOf i).toNat)
  case atStart => exact ⟨0, rfl, by omega, 0, Lib.hid rfl⟩
  case round =>
    obtain ⟨k, rfl, hk, nd, hw⟩ := hrel
    have hw' := hw.out
    subst hw'
    rcases Nat.lt_or_ge k l.length with hlt | hge
    · have t0 : (0 : Int) ≤ (k : Int) := by omega
      have qb : k ≤ 562949953421312 := by omega
      have t1 : (k : Int) < (l.length : Int) := by omega
      obtain ⟨a, rfl, ca⟩ := ints_at (unhide H).1 k hlt
      obtain ⟨b, rfl, cb⟩ := ints_at (unhide H).2 k hlt
      have da : (w.drewN nd).cell? (a.add k) = some (.int .i64 l[k]) := ca
      have db : (w.drewN nd).cell? (b.add k) = some (.int .i64 l[k]) := cb
      generalize l[k] = x at *
      go_wp2_with fail
      go_quiet (fail)
      go_wp2_with fail
      refine ⟨⟨k + 1, by go_num, by omega, nd + nq, Lib.hid rfl⟩, by simp [RowKit.intOf]; omega⟩
    · have t1 : ¬ (k : Int) < (l.length : Int) := by omega
      go_wp2_with fail
      go_ret
      exact ⟨rfl, nd, rfl⟩
set_option maxRecDepth 100000 in
set_option maxHeartbeats 2000000 in
theorem sameWords_eq (v1 v2 : Value) (l : List ByteArray) (w : World) (hn : l.length ≤ 562949953421312) (h1 : StrsAt w v1 l) (h2 : StrsAt w v2 l) :
    Calls Try.prog 49 #[v1, v2] w fun e w' => e = .returned (.bool true) ∧ ∃ n, w' = w.drewN n := by
  obtain ⟨A, c, rfl, -⟩ := id h1
  obtain ⟨B, d, rfl, -⟩ := id h2
  have H := hide (And.intro h1 h2); clear h1 h2
  go_enter Try.func49, Try.ntmps49
  go_wp2_with fail
  go_loopw [5] (fun i wr => ∃ k : Nat, i = .int .i64 (k : Int) ∧ k ≤ l.length ∧ ∃ nd, Hid (wr = w.drewN nd)) (fun i _ => l.length - (RowKit.intOf i).toNat)
  case atStart => exact ⟨0, rfl, by omega, 0, Lib.hid rfl⟩
  case round =>
    obtain ⟨k, rfl, hk, nd, hw⟩ := hrel
    have hw' := hw.out
    subst hw'
    rcases Nat.lt_or_ge k l.length with hlt | hge
    · have t0 : (0 : Int) ≤ (k : Int) := by omega
      have qb : k ≤ 562949953421312 := by omega
      have t1 : (k : Int) < (l.length : Int) := by omega
      obtain ⟨a, rfl, ca⟩ := strs_at (unhide H).1 k hlt
      obtain ⟨b, rfl, cb⟩ := strs_at (unhide H).2 k hlt
      have da : (w.drewN nd).cell? (a.add k) = some (.string l[k]) := ca
      have db : (w.drewN nd).cell? (b.add k) = some (.string l[k]) := cb
      generalize l[k] = x at *
      have hss : (x.toList == x.toList) = true := beq_self_eq_true _
      go_wp2_with fail
      go_quiet (fail)
      go_wp2_with fail
      refine ⟨⟨k + 1, by go_num, by omega, nd + nq, Lib.hid rfl⟩, by simp [RowKit.intOf]; omega⟩
    · have t1 : ¬ (k : Int) < (l.length : Int) := by omega
      go_wp2_with fail
      go_ret
      exact ⟨rfl, nd, rfl⟩
theorem steps_at {w : World} {A : Option Addr} {m c : Nat} {es : List StepR} (h : StepsAt w (.slice A m c) es) (j : Nat) (hj : j < es.length) : ∃ p, A = some p ∧ StepAt w (p.add (j * 9)) es[j] := by
  obtain ⟨A', c', hv, hc⟩ := h
  injection hv with e1 e2 e3
  subst e1
  exact hc j hj
set_option maxRecDepth 100000 in
set_option maxHeartbeats 4000000 in
theorem sameSteps_eq (v1 v2 : Value) (l : List StepR) (w : World) (hn : l.length ≤ 562949953421312) (hm : ∀ s ∈ l, s.ns.length ≤ 562949953421312 ∧ s.ss.length ≤ 562949953421312) (h1 : StepsAt w v1 l) (h2 : StepsAt w v2 l) :
    Calls Try.prog 24 #[v1, v2] w fun e w' => e = .returned (.bool true) ∧ ∃ n, w' = w.drewN n := by
  obtain ⟨A, c, rfl, -⟩ := id h1
  obtain ⟨B, d, rfl, -⟩ := id h2
  have H := hide (And.intro h1 h2); have HM := hide hm; clear h1 h2 hm
  go_enter Try.func24, Try.ntmps24
  go_wp2_with fail
  go_loopw [5] (fun i wr => ∃ k : Nat, i = .int .i64 (k : Int) ∧ k ≤ l.length ∧ ∃ nd, Hid (wr = w.drewN nd)) (fun i _ => l.length - (RowKit.intOf i).toNat)
  case atStart => exact ⟨0, rfl, by omega, 0, Lib.hid rfl⟩
  case round =>
    obtain ⟨k, rfl, hk, nd, hw⟩ := hrel
    have hw' := hw.out
    subst hw'
    rcases Nat.lt_or_ge k l.length with hlt | hge
    · have t0 : (0 : Int) ≤ (k : Int) := by omega
      have qb : k ≤ 562949953421312 := by omega
      have t1 : (k : Int) < (l.length : Int) := by omega
      obtain ⟨p, rfl, hp⟩ := steps_at (unhide H).1 k hlt
      obtain ⟨q, rfl, hq⟩ := steps_at (unhide H).2 k hlt
      have hmk := (unhide HM) _ (List.getElem_mem hlt)
      generalize l[k] = s at *
      obtain ⟨kd, o, ns, ss⟩ := s
      obtain ⟨vn, vs, a0, a1, a2, a3, a4, a5, ho, p0, p1, p2, p3, p4, p5, p6, p7, p8, hI, hS⟩ := hp
      obtain ⟨un, us, b0, b1, b2, b3, b4, b5, ho', q0, q1, q2, q3, q4, q5, q6, q7, q8, hJ, hT⟩ := hq
      simp only at ho ho' p0 q0 hI hS hJ hT hmk
      subst ho
      injection ho' with e0 ho'; injection ho' with e1 ho'; injection ho' with e2 ho'; injection ho' with e3 ho'; injection ho' with e4 ho'; injection ho' with e5 ho'
      subst e0 e1 e2 e3 e4 e5
      clear ho'
      have rp0 : (w.drewN nd).cell? (p.add (k * 9)) = _ := p0
      have rp1 : (w.drewN nd).cell? ⟨(p.add (k * 9)).block, (p.add (k * 9)).off + 1, none⟩ = _ := p1
      have rp2 : (w.drewN nd).cell? ⟨(p.add (k * 9)).block, (p.add (k * 9)).off + 2, none⟩ = _ := p2
      have rp3 : (w.drewN nd).cell? ⟨(p.add (k * 9)).block, (p.add (k * 9)).off + 3, none⟩ = _ := p3
      have rp4 : (w.drewN nd).cell? ⟨(p.add (k * 9)).block, (p.add (k * 9)).off + 4, none⟩ = _ := p4
      have rp5 : (w.drewN nd).cell? ⟨(p.add (k * 9)).block, (p.add (k * 9)).off + 5, none⟩ = _ := p5
      have rp6 : (w.drewN nd).cell? ⟨(p.add (k * 9)).block, (p.add (k * 9)).off + 6, none⟩ = _ := p6
      have rp7 : (w.drewN nd).cell? ⟨(p.add (k * 9)).block, (p.add (k * 9)).off + 7, none⟩ = _ := p7
      have rp8 : (w.drewN nd).cell? ⟨(p.add (k * 9)).block, (p.add (k * 9)).off + 8, none⟩ = _ := p8
      have rq0 : (w.drewN nd).cell? (q.add (k * 9)) = _ := q0
      have rq1 : (w.drewN nd).cell? ⟨(q.add (k * 9)).block, (q.add (k * 9)).off + 1, none⟩ = _ := q1
      have rq2 : (w.drewN nd).cell? ⟨(q.add (k * 9)).block, (q.add (k * 9)).off + 2, none⟩ = _ := q2
      have rq3 : (w.drewN nd).cell? ⟨(q.add (k * 9)).block, (q.add (k * 9)).off + 3, none⟩ = _ := q3
      have rq4 : (w.drewN nd).cell? ⟨(q.add (k * 9)).block, (q.add (k * 9)).off + 4, none⟩ = _ := q4
      have rq5 : (w.drewN nd).cell? ⟨(q.add (k * 9)).block, (q.add (k * 9)).off + 5, none⟩ = _ := q5
      have rq6 : (w.drewN nd).cell? ⟨(q.add (k * 9)).block, (q.add (k * 9)).off + 6, none⟩ = _ := q6
      have rq7 : (w.drewN nd).cell? ⟨(q.add (k * 9)).block, (q.add (k * 9)).off + 7, none⟩ = _ := q7
      have rq8 : (w.drewN nd).cell? ⟨(q.add (k * 9)).block, (q.add (k * 9)).off + 8, none⟩ = _ := q8
      have hSI := fun n => sameInts_eq vn un ns (w.drewN n) hmk.1 hI hJ
      have hSW := fun n => sameWords_eq vs us ss (w.drewN n) hmk.2 hS hT
      obtain ⟨A1, c1, rfl, -⟩ := id hI
      obtain ⟨A2, c2, rfl, -⟩ := id hJ
      obtain ⟨A3, c3, rfl, -⟩ := id hS
      obtain ⟨A4, c4, rfl, -⟩ := id hT
      have HI := hide hSI; have HW := hide hSW
      clear hSI hSW hI hJ hS hT hmk
      go_wp2_with fail
      go_quiet (first
        | (go_at_call 48; exact quiet_add ((unhide HI) _))
        | (go_at_call 49; exact quiet_add ((unhide HW) _)))
      go_wp2_with fail
      refine ⟨⟨k + 1, by go_num, by omega, nd + nq, Lib.hid rfl⟩, by simp [RowKit.intOf]; omega⟩
    · have t1 : ¬ (k : Int) < (l.length : Int) := by omega
      go_wp2_with fail
      go_ret
      exact ⟨rfl, nd, rfl⟩
end Go.Proofs.Ytaomecinemmdgaa

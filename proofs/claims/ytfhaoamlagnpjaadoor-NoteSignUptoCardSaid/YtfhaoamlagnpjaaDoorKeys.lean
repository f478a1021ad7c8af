/-
  CONTRACTS of the law's helpers on keys: keys, kept.
-/
import Derived.Test.YtfhaoamlagnpjaaDoorRows
import Derived.Test.YtfhaoamlagnpjaaDoorWd
import Derived.Test.YtfhaoamlagnpjaaDoorKeyOwn
import Derived.Deep.QuietTactic
import Derived.BigQuiet
set_option linter.unusedVariables false
set_option linter.unusedSimpArgs false
namespace Go.Proofs.YtfhaoamlagnpjaaDoor
open Go.RowKit Go.Lib
def behindK : KeyR := ⟨⟨#[98, 101, 104, 105, 110, 100]⟩, ⟨#[]⟩⟩
theorem KeysAt.at_ {w : World} {A : Option Addr} {m c : Nat} {ks : List KeyR} (h : KeysAt w (.slice A m c) ks) (j : Nat) (hj : j < ks.length) : ∃ a, A = some a ∧ w.cell? (a.add (j * 2)) = some (.string ks[j].nm) ∧ w.cell? ⟨(a.add (j * 2)).block, (a.add (j * 2)).off + 1, none⟩ = some (.string ks[j].sc) := by
  obtain ⟨A', c', hv, hc⟩ := h
  injection hv with e1 e2 e3
  subst e1 e2 e3
  obtain ⟨a, rfl, h1, h2⟩ := hc j hj
  refine ⟨a, rfl, h1, ?_⟩
  have e : (⟨(a.add (j * 2)).block, (a.add (j * 2)).off + 1, none⟩ : Addr) = (a.add (j * 2)).add 1 := rfl
  rw [e, Addr.add_add]
  exact h2
set_option maxRecDepth 100000 in
theorem keys_any (v : Value) (ks : List KeyR) (w : World) (hn : ks.length ≤ 549755813888) (hV : KeysAt w v ks) :
    Calls Tryd.prog 22 #[v] w fun e w' => ∃ v', e = .returned v' ∧ OwnK w' w.heap.size v' (ks ++ [behindK]) ∧ Below w.heap.size w w' := by
  obtain ⟨A, c, rfl, -⟩ := id hV
  have HV := hide hV; clear hV
  go_enter Tryd.func22, Tryd.ntmps22
  go_wp2_with (first | (at_builtin; refine wpList_appK _ rfl _ _ rfl (OwnK.nil _ w.heap.size) rfl (unhide HV) rfl (by simp; omega) (Nat.le_refl _) ?_; intro v1 w1 hO1 hg1 hat1; have H1 := hide (And.intro hO1 hg1); clear hO1 hg1 hat1) | (at_builtin; refine wpList_appK1 w1 rfl _ _ rfl (y := behindK) (unhide H1).1 rfl rfl (by simp; omega) (unhide H1).2.size ?_; intro v2 w2 hO2 hg2 hat2; have H2 := hide (And.intro hO2 hg2); clear hO2 hg2 hat2))
  go_ret
  have hb1 : Below w.heap.size w w1 := (Below.refl _ _).grown (unhide H1).2 (Nat.le_refl _) (fun q hq => by simp [Value.ownBlock] at hq)
  have hO := (unhide H2).1
  rw [List.nil_append] at hO
  exact ⟨_, rfl, hO, (hb1.alloc hb1.size _).grown (unhide H2).2 (by have := hb1.size; simp; omega) (fun q hq => ((unhide H1).1.lt _ hq).1)⟩
set_option maxRecDepth 100000 in
set_option maxHeartbeats 1000000 in
theorem kept_eq (a b : Value) (ks : List KeyR) (w : World) (hn : ks.length ≤ 549755813888) (ha : KeysAt w a (ks ++ [behindK])) (hb : KeysAt w b ks) :
    Calls Tryd.prog 25 #[a, b] w fun e w' => e = .returned (.bool true) ∧ ∃ nd, w' = w.drewN nd := by
  obtain ⟨A, c, rfl, -⟩ := id ha
  obtain ⟨B, d, rfl, -⟩ := id hb
  have hlen : (ks ++ [behindK]).length = ks.length + 1 := by simp
  obtain ⟨p, rfl, p0, p1⟩ := ha.at_ ks.length (by simp)
  have hge : (ks ++ [behindK])[ks.length]'(by simp) = behindK := by simp
  rw [hge] at p0 p1
  have p0' : w.cell? (p.add (ks.length * 2)) = some (.string ⟨#[98, 101, 104, 105, 110, 100]⟩) := p0
  have p1' : w.cell? ⟨(p.add (ks.length * 2)).block, (p.add (ks.length * 2)).off + 1, none⟩ = some (.string ⟨#[]⟩) := p1
  have HA : Hid (∀ j (hj : j < ks.length), w.cell? (p.add (j * 2)) = some (.string ks[j].nm) ∧ w.cell? ⟨(p.add (j * 2)).block, (p.add (j * 2)).off + 1, none⟩ = some (.string ks[j].sc)) := fun j hj => by
    obtain ⟨q, hq, h1, h2⟩ := ha.at_ j (by simp; omega)
    injection hq with hq
    subst hq
    rw [List.getElem_append_left hj] at h1 h2
    exact ⟨h1, h2⟩
  have HB : Hid (∀ j (hj : j < ks.length), ∃ q, B = some q ∧ w.cell? (q.add (j * 2)) = some (.string ks[j].nm) ∧ w.cell? ⟨(q.add (j * 2)).block, (q.add (j * 2)).off + 1, none⟩ = some (.string ks[j].sc)) := fun j hj => hb.at_ j hj
  clear ha hb p0 p1 hge
  rw [hlen]
  clear hlen
  have hi1 : (ks.length : Int) < (ks.length : Int) + 1 := by omega
  have hi2 : (0 : Int) ≤ (ks.length : Int) := by omega
  go_enter Tryd.func25, Tryd.ntmps25
  go_wp2_with fail
  go_loopw [6] (fun i wr => ∃ k : Nat, i = .int .i64 k ∧ k ≤ ks.length ∧ ∃ nd, Hid (wr = w.drewN nd)) (fun i _ => ks.length - (RowKit.intOf i).toNat)
  case atStart => exact ⟨0, rfl, by omega, 0, Lib.hid rfl⟩
  case round =>
    clear p0' p1'
    obtain ⟨k, rfl, hk, nd, hw⟩ := hrel
    have hw' := hw.out
    subst hw'
    rcases Nat.lt_or_ge k ks.length with hlt | hge
    · obtain ⟨c0, c1⟩ := unhide HA k hlt
      obtain ⟨q, rfl, d0, d1⟩ := unhide HB k hlt
      have hk2 : (k : Int) < (ks.length : Int) := by omega
      have hk3 : (k : Int) < (ks.length : Int) + 1 := by omega
      have k0 : (0 : Int) ≤ (k : Int) := by omega
      generalize ks[k] = x at *
      obtain ⟨xn, xs⟩ := x
      simp only at c0 c1 d0 d1
      have c0' : (w.drewN nd).cell? (p.add (k * 2)) = some (.string xn) := c0
      have c1' : (w.drewN nd).cell? ⟨(p.add (k * 2)).block, (p.add (k * 2)).off + 1, none⟩ = some (.string xs) := c1
      have d0' : (w.drewN nd).cell? (q.add (k * 2)) = some (.string xn) := d0
      have d1' : (w.drewN nd).cell? ⟨(q.add (k * 2)).block, (q.add (k * 2)).off + 1, none⟩ = some (.string xs) := d1
      have c2' : (w.drewN nd).cell? ((p.add (k * 2)).add 1) = some (.string xs) := c1
      have d2' : (w.drewN nd).cell? ((q.add (k * 2)).add 1) = some (.string xs) := d1
      have c3' : w.cell? ((p.add (k * 2)).add 1) = some (.string xs) := c1
      have d3' : w.cell? ((q.add (k * 2)).add 1) = some (.string xs) := d1
      have c4' : (w.drewN nd).cell? (p.add (k * 2 + 1)) = some (.string xs) := by rw [← Addr.add_add]; exact c1
      have d4' : (w.drewN nd).cell? (q.add (k * 2 + 1)) = some (.string xs) := by rw [← Addr.add_add]; exact d1
      go_wp2_with fail
      go_quiet (fail)
      go_wp2_with fail
      refine ⟨⟨k + 1, by go_num, by omega, nd + nq, Lib.hid rfl⟩, by simp [RowKit.intOf]; omega⟩
    · go_wp2_with fail
      go_ret
      exact ⟨rfl, nd, rfl⟩
end Go.Proofs.YtfhaoamlagnpjaaDoor

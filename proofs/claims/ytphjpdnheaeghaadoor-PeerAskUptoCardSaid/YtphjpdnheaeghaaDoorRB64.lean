/-
  CONTRACTS of the document's answer for text: base64 is written.
-/
import Derived.Test.YtphjpdnheaeghaaDoorRows
import Derived.Test.YtphjpdnheaeghaaDoorWd
import Derived.Test.YtphjpdnheaeghaaDoorBytes
import Derived.Test.YtphjpdnheaeghaaDoorDec
import Derived.Test.YtphjpdnheaeghaaDoorB64
import Derived.StillTailTactics
import Derived.Deep.RegionHeld3
set_option linter.unusedVariables false
set_option linter.unusedSimpArgs false
namespace Go.Proofs.YtphjpdnheaeghaaDoor
open Go.RowKit Go.Lib
set_option maxRecDepth 100000 in
theorem byteAt_any (s : ByteArray) (i : Nat) (w : World) (hs : s.size ≤ 35184372088832) (hi : i ≤ 35184372088840) :
    Calls Tryd.prog 29 #[.string s, .int .i64 (i : Int)] w fun e w' => e = .returned (.int .i64 ((s.data.toList.getD i 0).toNat : Int)) ∧ w = w' := by
  have hll : s.data.toList.length = s.size := Array.length_toList
  rcases Nat.lt_or_ge i s.size with h | h
  · have hlt := s[i].toNat_lt
    have hb : (s[i].toNat : Int) < 256 := by omega
    have he : Hid (s.data.toList.getD i 0 = s[i]) := by
      unfold Hid
      rw [List.getD_eq_getElem?_getD, List.getElem?_eq_getElem (by omega)]
      simp [ByteArray.getElem_eq_getElem_data]
    clear hlt
    go_enter Tryd.func29, Tryd.ntmps29
    go_wp2
    go_ret
    exact ⟨by rw [he.out]; rfl, rfl⟩
  · have he : Hid (s.data.toList.getD i 0 = 0) := by
      unfold Hid
      rw [List.getD_eq_getElem?_getD, List.getElem?_eq_none (by omega)]
      rfl
    go_enter Tryd.func29, Tryd.ntmps29
    go_wp2
    go_ret
    exact ⟨by rw [he.out]; rfl, rfl⟩
theorem signs_one (v : Nat) (h : v < 64) : signsS.extract v (v + 1) = ⟨#[sgn v]⟩ := by
  apply bs_eq
  have hs : signsS.data.size = 64 := rfl
  rw [bytes_extract _ _ _ (by show v + 1 ≤ 64; omega), show v + 1 - v = 1 from by omega]
  have hk := sgn_at v h
  have hd : signsS.data.toList.drop v = sgn v :: signsS.data.toList.drop (v + 1) := by
    rw [List.drop_eq_getElem_cons (by rw [Array.length_toList]; omega)]
    congr 1
    have := (Array.getElem?_eq_some_iff.1 hk).2
    simpa using this
  rw [hd]
  rfl
theorem sign64 (v : Nat) (w : World) (h : v < 64) :
    Calls Tryd.prog 28 #[.string signsS, .int .i64 (v : Int)] w fun e w' => e = .returned (.string ⟨#[sgn v]⟩) ∧ w = w' := by
  refine (sign_any signsS v w (by show v < 64; omega) (by decide)).mono ?_
  rintro e w' ⟨rfl, rfl⟩
  exact ⟨ret_str (signs_one v h), rfl⟩
theorem sign64z (z : Int) (k : Nat) (w : World) (hz : z = (k : Int)) (h : k < 64) :
    Calls Tryd.prog 28 #[.string signsS, .int .i64 z] w fun e w' => e = .returned (.string ⟨#[sgn k]⟩) ∧ w = w' := by
  subst hz
  exact sign64 k w h
set_option maxRecDepth 100000 in
set_option maxHeartbeats 1000000 in
theorem rb64_any (s : ByteArray) (w : World) (hs : s.size ≤ 35184372088832) :
    Calls Tryd.prog 16 #[.string s] w fun e w' => e = .returned (.string (b64S s)) ∧ w = w' := by
  have hB := fun i w (h : i ≤ 35184372088840) => byteAt_any s i w hs h
  have HB := hide hB; clear hB
  go_enter Tryd.func16, Tryd.ntmps16
  go_wp2_with fail
  go_loopw [3, 4] (fun a i wr => ∃ (q : Nat) (acc : ByteArray), a = .string acc ∧ i = .int .i64 (q : Nat) ∧ q ≤ s.size + 2 ∧ acc.size + (b64L (s.data.toList.drop q)).length ≤ 140737488355328 ∧ Hid (acc.data.toList ++ b64L (s.data.toList.drop q) = b64L s.data.toList) ∧ Hid (w = wr)) (fun _ i _ => s.size + 3 - (intOf i).toNat)
  case atStart => exact ⟨0, ⟨#[]⟩, rfl, rfl, by omega, by rw [b64L_length, List.drop_zero, Array.length_toList]; show 0 + (s.size + 2) / 3 * 4 ≤ _; omega, Lib.hid rfl, Lib.hid rfl⟩
  case round =>
    obtain ⟨q, acc, rfl, rfl, hq, hal, hacc, hw⟩ := hrel
    obtain rfl := hw.out
    have Hal := hide hal; clear hal
    rcases Nat.lt_or_ge q s.size with hlt | hge
    · have e0 := unhide HB q w (by omega)
      have e1 := unhide HB (q + 1) w (by omega)
      have e2 := unhide HB (q + 2) w (by omega)
      rw [Int.natCast_add] at e1 e2
      generalize ht0 : s.data.toList.getD q 0 = t0 at e0
      generalize ht1 : s.data.toList.getD (q + 1) 0 = t1 at e1
      generalize ht2 : s.data.toList.getD (q + 2) 0 = t2 at e2
      have E0 := hide e0
      have E1 := hide e1
      have E2 := hide e2
      have hb0 : (t0.toNat : Int) < 256 := by have := t0.toNat_lt; omega
      have hb1 : (t1.toNat : Int) < 256 := by have := t1.toNat_lt; omega
      have hb2 : (t2.toNat : Int) < 256 := by have := t2.toNat_lt; omega
      have Ht := hide (And.intro ht0 (And.intro ht1 ht2)); clear ht0 ht1 ht2 e0 e1 e2
      go_wp2_with fail
      refine (unhide E0).mono ?_
      rintro e w1 ⟨rfl, rfl⟩
      go_wp2_with fail
      refine (unhide E1).mono ?_
      rintro e w1 ⟨rfl, rfl⟩
      go_wp2_with fail
      refine (unhide E2).mono ?_
      rintro e w1 ⟨rfl, rfl⟩
      go_wp2_with fail
      obtain ⟨v, hv⟩ : ∃ v : Nat, Hid (t0.toNat * 65536 + t1.toNat * 256 + t2.toNat = v) := ⟨_, Lib.hid rfl⟩
      have hvv : ((t0.toNat : Int) * 65536 + (t1.toNat : Int) * 256 + (t2.toNat : Int)) = (v : Int) := by rw [← hv.out]; omega
      have hv24 : (v : Int) < 16777216 := by omega
      rw [hvv]
      clear hvv E0 E1 E2
      have s0 := sign64z ((v : Int) / 262144) (v / 262144 % 64) w (by omega) (by omega)
      have s1 := sign64z ((v : Int) / 4096 % 64) (v / 4096 % 64) w (by omega) (by omega)
      have s2 := sign64z ((v : Int) / 64 % 64) (v / 64 % 64) w (by omega) (by omega)
      have s3 := sign64z ((v : Int) % 64) (v % 64) w (by omega) (by omega)
      have hp : Hid (∀ n, (List.range 4).map (put4 v n) = [put4 v n 0, put4 v n 1, put4 v n 2, put4 v n 3]) := fun n => rfl
      have q0 : Hid (put4 v 3 0 = sgn (v / 262144 % 64) ∧ ∀ n, put4 v n 0 = sgn (v / 262144 % 64)) := ⟨rfl, fun n => rfl⟩
      have q1 : Hid (∀ n, 1 ≤ n → put4 v n 1 = sgn (v / 4096 % 64)) := fun n h => by unfold put4; rw [if_neg (by omega)]
      have q2 : Hid (∀ n, 2 ≤ n → put4 v n 2 = sgn (v / 64 % 64)) := fun n h => by unfold put4; rw [if_neg (by omega)]
      have q3 : Hid (∀ n, 3 ≤ n → put4 v n 3 = sgn (v % 64)) := fun n h => by unfold put4; rw [if_neg (by omega)]; simp
      generalize sgn (v / 262144 % 64) = g0 at s0 q0
      generalize sgn (v / 4096 % 64) = g1 at s1 q1
      generalize sgn (v / 64 % 64) = g2 at s2 q2
      generalize sgn (v % 64) = g3 at s3 q3
      have S1 := hide s1; have S2 := hide s2; have S3 := hide s3
      have hvn : v ≤ 16777215 := by omega
      clear s1 s2 s3 hv24 hb0 hb1 hb2
      refine s0.mono ?_
      rintro e w1 ⟨rfl, rfl⟩
      clear s0
      go_wp2_with fail
      refine (unhide S1).mono ?_
      rintro e w1 ⟨rfl, rfl⟩
      go_wp2_with fail
      refine (unhide S2).mono ?_
      rintro e w1 ⟨rfl, rfl⟩
      go_wp2_with fail
      refine (unhide S3).mono ?_
      rintro e w1 ⟨rfl, rfl⟩
      have hacs : acc.size ≤ 140737488355328 := by have := unhide Hal; omega
      have hll : s.data.toList.length = s.size := Array.length_toList
      have hfour : Hid (∀ n, n = min 3 (s.size - q) → b64L (s.data.toList.drop q) = [put4 v n 0, put4 v n 1, put4 v n 2, put4 v n 3] ++ b64L (s.data.toList.drop (q + 3))) := by
        rintro n rfl
        have hne : s.data.toList.drop q ≠ [] := fun e => by
          have := congrArg List.length e
          simp at this
          omega
        rw [b64L_cons hne, List.drop_drop, ← hp.out]
        congr 1
        unfold four val3
        obtain ⟨e0, e1, e2⟩ := unhide Ht
        simp only [List.getD_eq_getElem?_getD, List.getElem?_drop, Nat.add_zero] at e0 e1 e2 ⊢
        rw [e0, e1, e2, hv.out, List.length_drop, hll]
      have p2 : Hid (∀ n, n < 2 → put4 v n 2 = 61) := fun n h => by unfold put4; rw [if_pos (by omega)]
      have p3 : Hid (∀ n, n < 3 → put4 v n 3 = 61) := fun n h => by unfold put4; rw [if_pos (by omega)]
      clear hll
      rcases Nat.lt_or_ge s.size (q + 2) with h1 | h1
      · have hr : (s.size : Int) = q + 1 := by omega
        go_wp2_with fail
        have hF : b64L (s.data.toList.drop q) = [g0, g1, 61, 61] ++ b64L (s.data.toList.drop (q + 3)) := by
          rw [hfour.out 1 (by omega), q0.out.2, q1.out 1 (by omega), p2.out 1 (by omega), p3.out 1 (by omega)]
        have hal := unhide Hal
        rw [hF, List.length_append] at hal
        refine ⟨⟨q + 3, _, rfl, by rfl, by omega, ?_, ?_, Lib.hid trivial⟩, by simp [intOf]; omega⟩
        · rw [ByteArray.size_append]
          have : ((⟨#[g0]⟩ ++ ⟨#[g1]⟩ ++ ⟨#[g2]⟩ ++ ⟨#[g3]⟩ : ByteArray).extract 0 2 ++ ⟨#[61, 61]⟩ : ByteArray).size = 4 := rfl
          rw [this]
          simp at hal
          omega
        · rw [Hid, ← hacc.out, hF, ByteArray.data_append, Array.toList_append, List.append_assoc]
          rfl
      · rcases Nat.lt_or_ge s.size (q + 3) with h2 | h2
        · have hr : (s.size : Int) = q + 2 := by omega
          go_wp2_with fail
          have hF : b64L (s.data.toList.drop q) = [g0, g1, g2, 61] ++ b64L (s.data.toList.drop (q + 3)) := by
            rw [hfour.out 2 (by omega), q0.out.2, q1.out 2 (by omega), q2.out 2 (by omega), p3.out 2 (by omega)]
          have hal := unhide Hal
          rw [hF, List.length_append] at hal
          refine ⟨⟨q + 3, _, rfl, by rfl, by omega, ?_, ?_, Lib.hid trivial⟩, by simp [intOf]; omega⟩
          · rw [ByteArray.size_append]
            have : ((⟨#[g0]⟩ ++ ⟨#[g1]⟩ ++ ⟨#[g2]⟩ ++ ⟨#[g3]⟩ : ByteArray).extract 0 3 ++ ⟨#[61]⟩ : ByteArray).size = 4 := rfl
            rw [this]
            simp at hal
            omega
          · rw [Hid, ← hacc.out, hF, ByteArray.data_append, Array.toList_append, List.append_assoc]
            rfl
        · have hr1 : ((s.size : Int) - q == 1) = false := by simp; omega
          have hr2 : ((s.size : Int) - q == 2) = false := by simp; omega
          go_wp2_with fail
          have hF : b64L (s.data.toList.drop q) = [g0, g1, g2, g3] ++ b64L (s.data.toList.drop (q + 3)) := by
            rw [hfour.out 3 (by omega), q0.out.2, q1.out 3 (by omega), q2.out 3 (by omega), q3.out 3 (by omega)]
          have hal := unhide Hal
          rw [hF, List.length_append] at hal
          refine ⟨⟨q + 3, _, rfl, by rfl, by omega, ?_, ?_, Lib.hid trivial⟩, by simp [intOf]; omega⟩
          · rw [ByteArray.size_append]
            have : ((⟨#[g0]⟩ ++ ⟨#[g1]⟩ ++ ⟨#[g2]⟩ ++ ⟨#[g3]⟩ : ByteArray) : ByteArray).size = 4 := rfl
            rw [this]
            simp at hal
            omega
          · rw [Hid, ← hacc.out, hF, ByteArray.data_append, Array.toList_append, List.append_assoc]
            rfl
    · have hd : Hid (acc = b64S s) := by
        apply bs_eq
        have h := hacc.out
        rw [List.drop_eq_nil_of_le (by rw [Array.length_toList]; exact hge), b64L_nil, List.append_nil] at h
        rw [h]
        rfl
      go_wp2_with fail
      go_ret
      exact ⟨ret_str hd.out, rfl⟩
end Go.Proofs.YtphjpdnheaeghaaDoor

/-
  CONTRACTS of the document's answer for text: base64 is read.
-/
import Derived.Test.YtphjpdnheaeghaaDoorRows
import Derived.Test.YtphjpdnheaeghaaDoorWd
import Derived.Test.YtphjpdnheaeghaaDoorRB64
import Derived.Test.YtphjpdnheaeghaaDoorUnBP
import Derived.Test.YtphjpdnheaeghaaDoorUnDec
import Derived.Test.YtphjpdnheaeghaaDoorUnbA
import Derived.StillTailTactics
import Derived.Deep.RegionHeld3
import Derived.Deep.QuietTactic
import Derived.BigQuiet
set_option linter.unusedVariables false
set_option linter.unusedSimpArgs false
namespace Go.Proofs.YtphjpdnheaeghaaDoor
open Go.RowKit Go.Lib
theorem sgn_back_all : ∀ c : Fin 256, tabv (c.val.toUInt8) ≠ 0 → sgn (tabv (c.val.toUInt8) - 1) = c.val.toUInt8 := by decide +kernel
theorem sgn_back (c : UInt8) (h : tabv c ≠ 0) : sgn (tabv c - 1) = c := by
  have e : (c.toNat).toUInt8 = c := by simp
  have := sgn_back_all ⟨c.toNat, c.toNat_lt⟩
  simp only [e] at this
  exact this h
theorem rval_none {c : UInt8} (h : ∀ j, j < 64 → sgn j ≠ c) : rval c = 0 := by
  unfold rval
  by_cases hc : tabv c = 0
  · rw [hc]
  · exact absurd (sgn_back c hc) (h _ (by have := tabv_le c; omega))
set_option maxRecDepth 100000 in
set_option maxHeartbeats 1000000 in
theorem rvalue_any (c : UInt8) (w : World) :
    Calls Tryd.prog 37 #[.string signsS, .int .u8 (c.toNat : Int)] w fun e w' => e = .returned (.int .i64 (rval c : Int)) ∧ w = w' := by
  have hcl := c.toNat_lt
  have hss : signsS.size = 64 := rfl
  obtain ⟨S, hS⟩ : ∃ S, Hid (signsS = S) := ⟨_, Lib.hid rfl⟩
  have hat : ∀ k, k < 64 → S.data[k]? = some (sgn k) := fun k h => by rw [← hS.out]; exact sgn_at k h
  have HAT := hide hat; clear hat
  rw [hS.out] at hss ⊢
  go_enter Tryd.func37, Tryd.ntmps37
  go_wp2_with fail
  go_loopw [5] (fun i wr => ∃ k : Nat, k ≤ 64 ∧ i = .int .i64 k ∧ Hid (∀ j, j < k → sgn j ≠ c) ∧ Hid (w = wr)) (fun i _ => 64 - (RowKit.intOf i).toNat)
  case atStart => exact ⟨0, by omega, rfl, Lib.hid (fun j h => by omega), Lib.hid rfl⟩
  case round =>
    obtain ⟨k, hk, rfl, hI, hw⟩ := hrel
    obtain rfl := hw.out
    rcases Nat.lt_or_ge k 64 with hlt | hge
    · have hkS : (k : Int) < (S.size : Int) := by omega
      have hg := unhide HAT k hlt
      have hgl := (sgn k).toNat_lt
      by_cases hc : sgn k = c
      · have hcc : ((sgn k).toNat : Int) = (c.toNat : Int) := by rw [hc]
        have hres : Hid (rval c = k) := by rw [Hid, ← hc, rval_sgn hlt]
        have HG := hide hg; clear hg
        go_wp2_with (first | (refine wpList_index_str rfl _ _ rfl S k _ rfl rfl rfl (sgn k) (unhide HG) ?_))
        go_ret
        exact ⟨by rw [hres.out]; rfl, rfl⟩
      · have hcc : ((sgn k).toNat : Int) ≠ (c.toNat : Int) := fun e => hc (UInt8.toNat_inj.1 (by omega))
        have HG := hide hg; clear hg
        go_wp2_with (first | (refine wpList_index_str rfl _ _ rfl S k _ rfl rfl rfl (sgn k) (unhide HG) ?_))
        go_roundw
        case rel =>
          refine ⟨k + 1, by omega, by go_num, Lib.hid (fun j h => ?_), Lib.hid trivial⟩
          rcases Nat.lt_succ_iff_lt_or_eq.1 h with h' | rfl
          · exact hI.out j h'
          · exact hc
        case measure => simp [RowKit.intOf]; omega
    · have hkS : ¬ (k : Int) < (S.size : Int) := by omega
      have hres : Hid (rval c = 0) := rval_none (fun j h => hI.out j (by omega))
      go_wp2_with fail
      go_ret
      exact ⟨by rw [hres.out]; rfl, rfl⟩
theorem rgroups_length : ∀ l : List UInt8, (rgroups l).length ≤ l.length
  | [] => by simp [rgroups]
  | [_] => by simp [rgroups]
  | [_, _] => by simp [rgroups]
  | [_, _, _] => by simp [rgroups]
  | a :: b :: c :: d :: r => by
    have := rgroups_length r
    simp [rgroups]
    omega
theorem rgroups_short (l : List UInt8) (h : l.length ≤ 3) : rgroups l = [] := by
  match l, h with
  | [], _ => rfl
  | [_], _ => rfl
  | [_, _], _ => rfl
  | [_, _, _], _ => rfl
theorem rgroups_at (l : List UInt8) (k : Nat) (h : k + 3 < l.length) : rgroups (l.drop k) = [(rfour l[k] l[k + 1] l[k + 2] l[k + 3] / 65536).toUInt8, (rfour l[k] l[k + 1] l[k + 2] l[k + 3] / 256 % 256).toUInt8, (rfour l[k] l[k + 1] l[k + 2] l[k + 3] % 256).toUInt8] ++ rgroups (l.drop (k + 4)) := by
  rw [List.drop_eq_getElem_cons (by omega : k < l.length), List.drop_eq_getElem_cons (by omega : k + 1 < l.length), List.drop_eq_getElem_cons (by omega : k + 1 + 1 < l.length), List.drop_eq_getElem_cons (by omega : k + 1 + 1 + 1 < l.length)]
  rfl
theorem rval_le (c : UInt8) : rval c ≤ 63 := by have := tabv_le c; unfold rval; omega
theorem news3 (w : World) (z0 z1 z2 : Int) (x0 x1 x2 : UInt8) (h0 : z0 = (x0.toNat : Int)) (h1 : z1 = (x1.toNat : Int)) (h2 : z2 = (x2.toNat : Int)) : ∀ j u, (byteCells [x0, x1, x2])[j]? = some u →
    (w.alloc (.cells #[.int .u8 z0, .int .u8 z1, .int .u8 z2] 5)).cell? ((⟨w.heap.size, 0, none⟩ : Addr).add j) = some u := by
  intro j u h
  have hadd : (⟨w.heap.size, 0, none⟩ : Addr).add j = ⟨w.heap.size, j, none⟩ := by unfold Addr.add; split <;> simp_all
  rw [hadd, (Blk.new w 5 _).cell j, ← h, h0, h1, h2]
  simp [byteCells]
theorem OwnB.prefix {w : World} {base : Nat} {p : Option Addr} {m c : Nat} {bs : List UInt8} (h : OwnB w base (.slice p m c) bs) (n : Nat) (hn : n ≤ bs.length) : OwnB w base (.slice p n c) (bs.take n) := by
  rcases h with ⟨hv, rfl⟩ | ⟨g, cap, cur, fz, hv, h1, h2, h3, h4, h5, h6, h7⟩
  · injection hv with e1 e2 e3
    subst e1 e2 e3
    simp at hn
    subst hn
    exact .inl ⟨rfl, rfl⟩
  · injection hv with e1 e2 e3
    subst e1 e2 e3
    refine .inr ⟨g, c, cur, fz, by rw [List.length_take, Nat.min_eq_left hn], h1, h2, h3, by rw [List.length_take]; omega, h5, h6, ?_⟩
    rw [List.length_take, Nat.min_eq_left hn]
    have e : (cur.toList.take bs.length).take n = (byteCells bs).take n := by rw [h7]
    rw [List.take_take, Nat.min_eq_left hn] at e
    rw [e]
    simp [byteCells, List.map_take]
set_option maxRecDepth 100000 in
set_option maxHeartbeats 2000000 in
theorem runb_any (s : ByteArray) (w : World) (hs : s.size ≤ 1099511627776) :
    Calls Tryd.prog 24 #[.string s] w fun e w' => e = .returned (unbA s) ∧ Below w.heap.size w w' := by
  have hll : s.data.toList.length = s.size := Array.length_toList
  go_enter Tryd.func24, Tryd.ntmps24
  go_wp2_with fail
  go_loopw [4, 5] (fun v i wr => ∃ (k : Nat) (acc : List UInt8), i = .int .i64 k ∧ k ≤ s.size + 4 ∧ Hid (acc ++ rgroups (s.data.toList.drop k) = rgroups s.data.toList) ∧ OwnB wr w.heap.size v acc ∧ Below w.heap.size w wr) (fun _ i _ => s.size + 8 - (RowKit.intOf i).toNat)
  case atStart => exact ⟨0, [], rfl, by omega, Lib.hid rfl, OwnB.nil _ _, Below.refl _ _⟩
  case round =>
    obtain ⟨k, acc, rfl, hk, hI, hO, hb⟩ := hrel
    have hgl := rgroups_length s.data.toList
    have hal : Hid (acc.length ≤ s.size) := by
      have h := congrArg List.length hI.out
      rw [List.length_append] at h
      unfold Hid
      omega
    clear hgl
    have HX := hide (And.intro hI (And.intro hO hb)); clear hI hO hb
    rcases Nat.lt_or_ge (k + 3) s.size with hlt | hge
    · have hlt' : (k : Int) + 3 < (s.size : Int) := by omega
      have k0 : (0 : Int) ≤ (k : Int) := by omega
      have hg0 : (s.data.toList[k]'(by omega)) = s[k]'(by omega) := rfl
      have hg1 : (s.data.toList[k + 1]'(by omega)) = s[k + 1]'(by omega) := rfl
      have hg2 : (s.data.toList[k + 2]'(by omega)) = s[k + 2]'(by omega) := rfl
      have hg3 : (s.data.toList[k + 3]'(by omega)) = s[k + 3]'(by omega) := rfl
      have hrg := rgroups_at s.data.toList k (by omega)
      rw [hg0, hg1, hg2, hg3] at hrg
      clear hg0 hg1 hg2 hg3
      have HRG := Lib.hid hrg; clear hrg
      have b0 : k < s.size := by omega
      have b1 : k + 1 < s.size := by omega
      have b2 : k + 2 < s.size := by omega
      have b3 : k + 3 < s.size := by omega
      have i0 : (k : Int) < (s.size : Int) := by omega
      have i1 : (k : Int) + 1 < (s.size : Int) := by omega
      have i2 : (k : Int) + 2 < (s.size : Int) := by omega
      have t0 : (s[k]'b0).toNat < 256 := s[k].toNat_lt
      have t1 : (s[k + 1]'b1).toNat < 256 := s[k + 1].toNat_lt
      have t2 : (s[k + 2]'b2).toNat < 256 := s[k + 2].toNat_lt
      have t3 : (s[k + 3]'b3).toNat < 256 := s[k + 3].toNat_lt
      have l0 := rval_le (s[k]'b0)
      have l1 := rval_le (s[k + 1]'b1)
      have l2 := rval_le (s[k + 2]'b2)
      have l3 := rval_le (s[k + 3]'b3)
      have q1 : IntKind.i64.wrap ((k : Int) + 1) = k + 1 := IntWalk.i64_in _ (by omega)
      have q2 : IntKind.i64.wrap ((k : Int) + 2) = k + 2 := IntWalk.i64_in _ (by omega)
      have q3 : IntKind.i64.wrap ((k : Int) + 3) = k + 3 := IntWalk.i64_in _ (by omega)
      have p1 : ((k : Int) + 1).toNat = k + 1 := by omega
      have p2 : ((k : Int) + 2).toNat = k + 2 := by omega
      have p3 : ((k : Int) + 3).toNat = k + 3 := by omega
      have o1 : 0 ≤ (k : Int) + 1 := by omega
      have o2 : 0 ≤ (k : Int) + 2 := by omega
      have o3 : 0 ≤ (k : Int) + 3 := by omega
      have m0 : IntKind.i64.wrap (((rval (s[k]'b0)) : Int) * 262144) = ((rval (s[k]'b0)) : Int) * 262144 := IntWalk.i64_in _ (by omega)
      have m1 : IntKind.i64.wrap (((rval (s[k + 1]'b1)) : Int) * 4096) = ((rval (s[k + 1]'b1)) : Int) * 4096 := IntWalk.i64_in _ (by omega)
      have m2 : IntKind.i64.wrap (((rval (s[k + 2]'b2)) : Int) * 64) = ((rval (s[k + 2]'b2)) : Int) * 64 := IntWalk.i64_in _ (by omega)
      have a1 : IntKind.i64.wrap (((rval (s[k]'b0)) : Int) * 262144 + ((rval (s[k + 1]'b1)) : Int) * 4096) = ((rval (s[k]'b0)) : Int) * 262144 + ((rval (s[k + 1]'b1)) : Int) * 4096 := IntWalk.i64_in _ (by omega)
      have a2 : IntKind.i64.wrap (((rval (s[k]'b0)) : Int) * 262144 + ((rval (s[k + 1]'b1)) : Int) * 4096 + ((rval (s[k + 2]'b2)) : Int) * 64) = ((rval (s[k]'b0)) : Int) * 262144 + ((rval (s[k + 1]'b1)) : Int) * 4096 + ((rval (s[k + 2]'b2)) : Int) * 64 := IntWalk.i64_in _ (by omega)
      have a3 : IntKind.i64.wrap (((rval (s[k]'b0)) : Int) * 262144 + ((rval (s[k + 1]'b1)) : Int) * 4096 + ((rval (s[k + 2]'b2)) : Int) * 64 + ((rval (s[k + 3]'b3)) : Int)) = ((rval (s[k]'b0)) : Int) * 262144 + ((rval (s[k + 1]'b1)) : Int) * 4096 + ((rval (s[k + 2]'b2)) : Int) * 64 + ((rval (s[k + 3]'b3)) : Int) := IntWalk.i64_in _ (by omega)
      go_wp2_with fail
      go_quiet (first | (go_at_call 37; first | exact quiet_left (rvalue_any _ _)))
      obtain ⟨N, hN⟩ : ∃ N : Nat, Hid (rfour (s[k]'b0) (s[k + 1]'b1) (s[k + 2]'b2) (s[k + 3]'b3) = N) := ⟨_, Lib.hid rfl⟩
      have hNv : ((rval (s[k]'b0) : Int) * 262144 + (rval (s[k + 1]'b1) : Int) * 4096 + (rval (s[k + 2]'b2) : Int) * 64 + (rval (s[k + 3]'b3) : Int)) = (N : Int) := by
        rw [← hN.out]
        unfold rfour
        omega
      rw [hNv]
      have hNb : N ≤ 16777215 := by omega
      rw [hN.out] at HRG
      clear hNv m0 m1 m2 a1 a2 a3 q1 q2 q3 l0 l1 l2 l3
      have x0 : (((N / 65536).toUInt8).toNat : Int) = (N : Int) / 65536 % 256 := by
        have e : ((N / 65536).toUInt8).toNat = (N / 65536) % 256 := UInt8.toNat_ofNat' ..
        rw [e]; omega
      have x1 : (((N / 256 % 256).toUInt8).toNat : Int) = (N : Int) / 256 % 256 := by
        have e : ((N / 256 % 256).toUInt8).toNat = (N / 256 % 256) % 256 := UInt8.toNat_ofNat' ..
        rw [e]; omega
      have x2 : (((N % 256).toUInt8).toNat : Int) = (N : Int) % 256 := by
        have e : ((N % 256).toUInt8).toNat = (N % 256) % 256 := UInt8.toNat_ofNat' ..
        rw [e]; omega
      have HXS := hide (And.intro x0 (And.intro x1 x2)); clear x0 x1 x2
      have hnews := news3 (wr.drewN nq) ((N : Int) / 65536) ((N : Int) / 256 % 256) ((N : Int) % 256) (N / 65536).toUInt8 (N / 256 % 256).toUInt8 (N % 256).toUInt8 (by rw [(unhide HXS).1]; omega) (by rw [(unhide HXS).2.1]) (by rw [(unhide HXS).2.2])
      have HNW := hide hnews; clear hnews
      go_wp2_with (first | (at_builtin; refine wpList_app_cells _ rfl _ _ rfl (((unhide HX).2.1.drewN nq).alloc _) rfl ⟨wr.heap.size, 0, none⟩ 3 3 [(N / 65536).toUInt8, (N / 256 % 256).toUInt8, (N % 256).toUInt8] rfl rfl (unhide HNW) (by have := hal.out; omega) (by have := (unhide HX).2.2.size; simp; omega) ?_; intro v1 w1 hO1 hg1 hat1; have H1 := hide (And.intro hO1 (And.intro hg1 hat1)); clear hO1 hg1 hat1))
      have hb1 : Below w.heap.size w w1 := ((below_drewN (unhide HX).2.2 nq).alloc (by have := (unhide HX).2.2.size; simp; omega) _).grown (unhide H1).2.1 (by have := (unhide HX).2.2.size; simp; omega) (fun q hq => ((unhide HX).2.1.lt _ hq).1)
      go_roundw
      case rel =>
        refine ⟨k + 4, acc ++ [(N / 65536).toUInt8, (N / 256 % 256).toUInt8, (N % 256).toUInt8], by go_num, by omega, ?_, (unhide H1).1, hb1⟩
        rw [Hid, List.append_assoc, ← HRG.out]
        exact (unhide HX).1.out
      case measure => simp [RowKit.intOf]; omega
    · have hge' : ¬ (k : Int) + 3 < (s.size : Int) := by omega
      have hacc : acc = rgroups s.data.toList := by
        have h := (unhide HX).1.out
        rw [rgroups_short _ (by rw [List.length_drop]; omega), List.append_nil] at h
        exact h
      have HA := Lib.hid hacc; clear hacc
      have hund : ∀ c, rcut s.data.toList = c → (acc.length < c → unbA s = .tuple #[.string ⟨#[]⟩, .int .i64 40]) ∧ (c ≤ acc.length → ∀ t : ByteArray, t = ⟨(acc.take (acc.length - c)).toArray⟩ → (b64S t = s → unbA s = .tuple #[.string t, .int .i64 0]) ∧ (b64S t ≠ s → unbA s = .tuple #[.string ⟨#[]⟩, .int .i64 40])) := by
        rintro c rfl
        have hb (t : ByteArray) (ht : b64S t = s) : rundigL s.data.toList = t.data.toList ∧ rcut s.data.toList ≤ (rgroups s.data.toList).length := by
          rw [b64S_list ht]
          exact rundig_b64 _
        refine ⟨fun h => unbA_none (unb64V_none fun t ht => ?_), fun h t ht => ⟨fun h1 => unbA_some (unb64V_of h1), fun h1 => unbA_none (unb64V_none fun t' ht' => h1 ?_)⟩⟩
        · have := (hb t ht).2
          rw [← HA.out] at this
          omega
        · have e := (hb t' ht').1
          have : t = t' := by
            rw [ht]
            apply bs_eq
            show acc.take (acc.length - rcut s.data.toList) = _
            rw [← e, HA.out]
            rfl
          rw [this]
          exact ht'
      have HUND := hide hund; clear hund
      have hal' := hal.out
      have hform : (∃ cap, u4 = .slice none acc.length cap ∧ acc = []) ∨ ∃ g cap, u4 = .slice (some ⟨g, 0, none⟩) acc.length cap ∧ acc.length ≤ cap := by
        rcases (unhide HX).2.1 with ⟨hv, he⟩ | ⟨g, cap, cur, fz, hv, -, -, -, hc, -⟩
        · exact .inl ⟨0, by rw [hv, he]; rfl, he⟩
        · exact .inr ⟨g, cap, hv, hc⟩
      obtain ⟨p, cap, rfl, hcap, hpn⟩ : ∃ p cap, u4 = .slice p acc.length cap ∧ acc.length ≤ cap ∧ (p = none → acc = []) := by
        rcases hform with ⟨cap, hv, he⟩ | ⟨g, cap, hv, hc⟩
        · exact ⟨none, cap, hv, by rw [he]; exact Nat.zero_le _, fun _ => he⟩
        · exact ⟨_, cap, hv, hc, fun h => by cases h⟩
      clear hform
      have hcv : ∀ c, (convert 38 9 (.slice p (acc.length - c) cap)).run Tryd.prog wr = .ok (.string ⟨(acc.take (acc.length - c)).toArray⟩) wr := fun c => conv_own ((unhide HX).2.1.prefix (acc.length - c) (Nat.sub_le _ _))
      have HCV := hide hcv; clear hcv
      have hcv : True := trivial
      rcases Nat.eq_zero_or_pos s.size with h0 | h0
      · have hsn : s.data.toList = [] := List.eq_nil_of_length_eq_zero (by omega)
        have hcut : Hid (rcut s.data.toList = 0) := by rw [Hid, hsn]; rfl
        have hs01 : ¬ (0 : Int) < (s.size : Int) := by omega
        have hs11 : ¬ (1 : Int) < (s.size : Int) := by omega
        clear hsn
        have hres := ((unhide HUND) 0 hcut.out).2 (Nat.zero_le _) _ rfl
        have hgt' : ¬ (acc.length : Int) < 0 := by omega
        have hcv' := unhide HCV 0
        obtain ⟨L, hL⟩ : ∃ L, acc.length - 0 = L := ⟨_, rfl⟩
        rw [hL] at hres hcv'
        have hLi : (acc.length : Int) - 0 = (L : Int) := by omega
        obtain ⟨t, ht⟩ : ∃ t, Hid ((⟨(acc.take L).toArray⟩ : ByteArray) = t) := ⟨_, Lib.hid rfl⟩
        rw [ht.out] at hres hcv'
        have hts : t.size ≤ 1099511627776 := by
          rw [← ht.out]
          show (acc.take L).toArray.size ≤ _
          rw [List.size_toArray, List.length_take]
          omega
        have hrb := rb64_any t wr (by omega)
        have HRES := hide hres; have HRB := hide hrb; clear hres hrb
        have hLc : L ≤ cap := by omega
        go_wp2_with fail
        refine (unhide HRB).mono ?_
        rintro e w1 ⟨rfl, rfl⟩
        obtain ⟨D, HDe⟩ : ∃ D, Hid (b64S t = D) := ⟨_, Lib.hid rfl⟩
        rw [HDe.out] at HRES ⊢
        by_cases he : D = s
        · have hr := Lib.hid ((unhide HRES).1 he)
          subst he
          go_wp2_with fail
          go_ret2
          exact ⟨by rw [hr.out]; rfl, (unhide HX).2.2⟩
        · have hr := Lib.hid ((unhide HRES).2 he)
          have he' := toList_ne he
          go_wp2_with fail
          go_ret2
          exact ⟨by rw [hr.out]; rfl, (unhide HX).2.2⟩
      · have hs01 : (0 : Int) < (s.size : Int) := by omega
        have hlt1 : s.size - 1 < s.size := by omega
        have hix : (s[s.size - 1]'hlt1).toNat < 256 := s[s.size - 1].toNat_lt
        have hm1 : (s.size : Int) - 1 = ((s.size - 1 : Nat) : Int) := by omega
        have hgl : Hid (s.data.toList.getLast? = some s[s.size - 1]) := by
          rw [Hid, List.getLast?_eq_getElem?, hll, List.getElem?_eq_getElem (by omega)]
          rfl
        by_cases hc : s[s.size - 1] = 61
        · have hcc : ((s[s.size - 1].toNat : Int) == 61) = true := by rw [hc]; rfl
          rcases Nat.lt_or_ge 1 s.size with h1 | h1
          · have hs11 : (1 : Int) < (s.size : Int) := by omega
            have hlt2 : s.size - 2 < s.size := by omega
            have hix2 : (s[s.size - 2]'hlt2).toNat < 256 := s[s.size - 2].toNat_lt
            have hm2 : (s.size : Int) - 2 = ((s.size - 2 : Nat) : Int) := by omega
            have hgl2 : Hid (s.data.toList.dropLast.getLast? = some s[s.size - 2]) := by
              rw [Hid, List.getLast?_eq_getElem?, List.length_dropLast, hll, List.getElem?_dropLast, if_pos (by omega), List.getElem?_eq_getElem (by omega)]
              rfl
            by_cases hd : s[s.size - 2] = 61
            · have hcut : Hid (rcut s.data.toList = 2) := by
                unfold rcut
                rw [Hid, hgl.out, hc, if_pos rfl, hgl2.out, hd, if_pos rfl]
              have hdd : ((s[s.size - 2].toNat : Int) == 61) = true := by rw [hd]; rfl
              rcases Nat.lt_or_ge acc.length 2 with hgt | hgt
              · have hres := Lib.hid (((unhide HUND) 2 hcut.out).1 hgt)
                have hgt' : (acc.length : Int) < 2 := by omega
                clear hcv
                go_wp2_with fail
                go_ret2
                exact ⟨by rw [hres.out]; rfl, (unhide HX).2.2⟩
              · have hres := ((unhide HUND) 2 hcut.out).2 hgt _ rfl
                have hgt' : ¬ (acc.length : Int) < 2 := by omega
                have hcv' := unhide HCV 2
                obtain ⟨L, hL⟩ : ∃ L, acc.length - 2 = L := ⟨_, rfl⟩
                rw [hL] at hres hcv'
                have hLi : (acc.length : Int) - 2 = (L : Int) := by omega
                obtain ⟨t, ht⟩ : ∃ t, Hid ((⟨(acc.take L).toArray⟩ : ByteArray) = t) := ⟨_, Lib.hid rfl⟩
                rw [ht.out] at hres hcv'
                have hts : t.size ≤ 1099511627776 := by
                  rw [← ht.out]
                  show (acc.take L).toArray.size ≤ _
                  rw [List.size_toArray, List.length_take]
                  omega
                have hrb := rb64_any t wr (by omega)
                have HRES := hide hres; have HRB := hide hrb; clear hres hrb
                have hLc : L ≤ cap := by omega
                go_wp2_with fail
                refine (unhide HRB).mono ?_
                rintro e w1 ⟨rfl, rfl⟩
                obtain ⟨D, HDe⟩ : ∃ D, Hid (b64S t = D) := ⟨_, Lib.hid rfl⟩
                rw [HDe.out] at HRES ⊢
                by_cases he : D = s
                · have hr := Lib.hid ((unhide HRES).1 he)
                  subst he
                  go_wp2_with fail
                  go_ret2
                  exact ⟨by rw [hr.out]; rfl, (unhide HX).2.2⟩
                · have hr := Lib.hid ((unhide HRES).2 he)
                  have he' := toList_ne he
                  go_wp2_with fail
                  go_ret2
                  exact ⟨by rw [hr.out]; rfl, (unhide HX).2.2⟩
            · have hcut : Hid (rcut s.data.toList = 1) := by
                unfold rcut
                rw [Hid, hgl.out, hc, if_pos rfl, hgl2.out, if_neg (by simpa using hd)]
              have hdd : ((s[s.size - 2].toNat : Int) == 61) = false := by
                rw [beq_eq_false_iff_ne]
                exact fun e => hd (UInt8.toNat_inj.1 (by rw [show (61 : UInt8).toNat = 61 from rfl]; omega))
              rcases Nat.lt_or_ge acc.length 1 with hgt | hgt
              · have hres := Lib.hid (((unhide HUND) 1 hcut.out).1 hgt)
                have hgt' : (acc.length : Int) < 1 := by omega
                clear hcv
                go_wp2_with fail
                go_ret2
                exact ⟨by rw [hres.out]; rfl, (unhide HX).2.2⟩
              · have hres := ((unhide HUND) 1 hcut.out).2 hgt _ rfl
                have hgt' : ¬ (acc.length : Int) < 1 := by omega
                have hcv' := unhide HCV 1
                obtain ⟨L, hL⟩ : ∃ L, acc.length - 1 = L := ⟨_, rfl⟩
                rw [hL] at hres hcv'
                have hLi : (acc.length : Int) - 1 = (L : Int) := by omega
                obtain ⟨t, ht⟩ : ∃ t, Hid ((⟨(acc.take L).toArray⟩ : ByteArray) = t) := ⟨_, Lib.hid rfl⟩
                rw [ht.out] at hres hcv'
                have hts : t.size ≤ 1099511627776 := by
                  rw [← ht.out]
                  show (acc.take L).toArray.size ≤ _
                  rw [List.size_toArray, List.length_take]
                  omega
                have hrb := rb64_any t wr (by omega)
                have HRES := hide hres; have HRB := hide hrb; clear hres hrb
                have hLc : L ≤ cap := by omega
                go_wp2_with fail
                refine (unhide HRB).mono ?_
                rintro e w1 ⟨rfl, rfl⟩
                obtain ⟨D, HDe⟩ : ∃ D, Hid (b64S t = D) := ⟨_, Lib.hid rfl⟩
                rw [HDe.out] at HRES ⊢
                by_cases he : D = s
                · have hr := Lib.hid ((unhide HRES).1 he)
                  subst he
                  go_wp2_with fail
                  go_ret2
                  exact ⟨by rw [hr.out]; rfl, (unhide HX).2.2⟩
                · have hr := Lib.hid ((unhide HRES).2 he)
                  have he' := toList_ne he
                  go_wp2_with fail
                  go_ret2
                  exact ⟨by rw [hr.out]; rfl, (unhide HX).2.2⟩
          · have hs11 : ¬ (1 : Int) < (s.size : Int) := by omega
            have hc0 : s[0]'h0 = 61 := by
              have e : s.size - 1 = 0 := by omega
              simp only [e] at hc
              exact hc
            have hcc0 : ((s[0].toNat : Int) == 61) = true := by rw [hc0]; rfl
            have hcut : Hid (rcut s.data.toList = 1) := by
              unfold rcut
              rw [Hid, hgl.out, hc, if_pos rfl]
              have : s.data.toList.dropLast = [] := List.eq_nil_of_length_eq_zero (by rw [List.length_dropLast]; omega)
              rw [this]
              rfl
            rcases Nat.lt_or_ge acc.length 1 with hgt | hgt
            · have hres := Lib.hid (((unhide HUND) 1 hcut.out).1 hgt)
              have hgt' : (acc.length : Int) < 1 := by omega
              clear hcv
              go_wp2_with fail
              go_ret2
              exact ⟨by rw [hres.out]; rfl, (unhide HX).2.2⟩
            · have hres := ((unhide HUND) 1 hcut.out).2 hgt _ rfl
              have hgt' : ¬ (acc.length : Int) < 1 := by omega
              have hcv' := unhide HCV 1
              obtain ⟨L, hL⟩ : ∃ L, acc.length - 1 = L := ⟨_, rfl⟩
              rw [hL] at hres hcv'
              have hLi : (acc.length : Int) - 1 = (L : Int) := by omega
              obtain ⟨t, ht⟩ : ∃ t, Hid ((⟨(acc.take L).toArray⟩ : ByteArray) = t) := ⟨_, Lib.hid rfl⟩
              rw [ht.out] at hres hcv'
              have hts : t.size ≤ 1099511627776 := by
                rw [← ht.out]
                show (acc.take L).toArray.size ≤ _
                rw [List.size_toArray, List.length_take]
                omega
              have hrb := rb64_any t wr (by omega)
              have HRES := hide hres; have HRB := hide hrb; clear hres hrb
              have hLc : L ≤ cap := by omega
              go_wp2_with fail
              refine (unhide HRB).mono ?_
              rintro e w1 ⟨rfl, rfl⟩
              obtain ⟨D, HDe⟩ : ∃ D, Hid (b64S t = D) := ⟨_, Lib.hid rfl⟩
              rw [HDe.out] at HRES ⊢
              by_cases he : D = s
              · have hr := Lib.hid ((unhide HRES).1 he)
                subst he
                go_wp2_with fail
                go_ret2
                exact ⟨by rw [hr.out]; rfl, (unhide HX).2.2⟩
              · have hr := Lib.hid ((unhide HRES).2 he)
                have he' := toList_ne he
                go_wp2_with fail
                go_ret2
                exact ⟨by rw [hr.out]; rfl, (unhide HX).2.2⟩
        · have hcc : ((s[s.size - 1].toNat : Int) == 61) = false := by
            rw [beq_eq_false_iff_ne]
            exact fun e => hc (UInt8.toNat_inj.1 (by rw [show (61 : UInt8).toNat = 61 from rfl]; omega))
          have hcut : Hid (rcut s.data.toList = 0) := by
            unfold rcut
            rw [Hid, hgl.out, if_neg (by simpa using hc)]
          rcases Nat.lt_or_ge 1 s.size with h1 | h1
          · have hs11 : (1 : Int) < (s.size : Int) := by omega
            have hres := ((unhide HUND) 0 hcut.out).2 (Nat.zero_le _) _ rfl
            have hgt' : ¬ (acc.length : Int) < 0 := by omega
            have hcv' := unhide HCV 0
            obtain ⟨L, hL⟩ : ∃ L, acc.length - 0 = L := ⟨_, rfl⟩
            rw [hL] at hres hcv'
            have hLi : (acc.length : Int) - 0 = (L : Int) := by omega
            obtain ⟨t, ht⟩ : ∃ t, Hid ((⟨(acc.take L).toArray⟩ : ByteArray) = t) := ⟨_, Lib.hid rfl⟩
            rw [ht.out] at hres hcv'
            have hts : t.size ≤ 1099511627776 := by
              rw [← ht.out]
              show (acc.take L).toArray.size ≤ _
              rw [List.size_toArray, List.length_take]
              omega
            have hrb := rb64_any t wr (by omega)
            have HRES := hide hres; have HRB := hide hrb; clear hres hrb
            have hLc : L ≤ cap := by omega
            go_wp2_with fail
            refine (unhide HRB).mono ?_
            rintro e w1 ⟨rfl, rfl⟩
            obtain ⟨D, HDe⟩ : ∃ D, Hid (b64S t = D) := ⟨_, Lib.hid rfl⟩
            rw [HDe.out] at HRES ⊢
            by_cases he : D = s
            · have hr := Lib.hid ((unhide HRES).1 he)
              subst he
              go_wp2_with fail
              go_ret2
              exact ⟨by rw [hr.out]; rfl, (unhide HX).2.2⟩
            · have hr := Lib.hid ((unhide HRES).2 he)
              have he' := toList_ne he
              go_wp2_with fail
              go_ret2
              exact ⟨by rw [hr.out]; rfl, (unhide HX).2.2⟩
          · have hs11 : ¬ (1 : Int) < (s.size : Int) := by omega
            have hc0 : ¬ s[0]'h0 = 61 := by
              have e : s.size - 1 = 0 := by omega
              simp only [e] at hc
              exact hc
            have hcc0 : ((s[0].toNat : Int) == 61) = false := by
              rw [beq_eq_false_iff_ne]
              exact fun e => hc0 (UInt8.toNat_inj.1 (by rw [show (61 : UInt8).toNat = 61 from rfl]; omega))
            have hres := ((unhide HUND) 0 hcut.out).2 (Nat.zero_le _) _ rfl
            have hgt' : ¬ (acc.length : Int) < 0 := by omega
            have hcv' := unhide HCV 0
            obtain ⟨L, hL⟩ : ∃ L, acc.length - 0 = L := ⟨_, rfl⟩
            rw [hL] at hres hcv'
            have hLi : (acc.length : Int) - 0 = (L : Int) := by omega
            obtain ⟨t, ht⟩ : ∃ t, Hid ((⟨(acc.take L).toArray⟩ : ByteArray) = t) := ⟨_, Lib.hid rfl⟩
            rw [ht.out] at hres hcv'
            have hts : t.size ≤ 1099511627776 := by
              rw [← ht.out]
              show (acc.take L).toArray.size ≤ _
              rw [List.size_toArray, List.length_take]
              omega
            have hrb := rb64_any t wr (by omega)
            have HRES := hide hres; have HRB := hide hrb; clear hres hrb
            have hLc : L ≤ cap := by omega
            go_wp2_with fail
            refine (unhide HRB).mono ?_
            rintro e w1 ⟨rfl, rfl⟩
            obtain ⟨D, HDe⟩ : ∃ D, Hid (b64S t = D) := ⟨_, Lib.hid rfl⟩
            rw [HDe.out] at HRES ⊢
            by_cases he : D = s
            · have hr := Lib.hid ((unhide HRES).1 he)
              subst he
              go_wp2_with fail
              go_ret2
              exact ⟨by rw [hr.out]; rfl, (unhide HX).2.2⟩
            · have hr := Lib.hid ((unhide HRES).2 he)
              have he' := toList_ne he
              go_wp2_with fail
              go_ret2
              exact ⟨by rw [hr.out]; rfl, (unhide HX).2.2⟩
end Go.Proofs.YtphjpdnheaeghaaDoor

/-
  Several texts in one: CONTRACTS of the document's answer for text: base64 is read. | CONTRACT: the document's sig: what a signature's line says.
-/
import Derived.Test.YtphoflcilpopgaaGreatDoorRows
import Derived.StillTailTactics
import Derived.Deep.RegionHeld3
import Derived.Deep.QuietTactic
import Derived.BigQuiet
import Derived.Test.YtphoflcilpopgaaGreatDoorGBase
import Derived.Test.YtphoflcilpopgaaGreatDoorSRB64
import Derived.Test.YtphoflcilpopgaaGreatDoorGDecs
import Derived.Test.YtphoflcilpopgaaGreatDoorGMacs
import Derived.Test.YtphoflcilpopgaaGreatDoorSSigned
set_option linter.unusedVariables false
set_option linter.unusedSimpArgs false
namespace Go.Proofs.YtphoflcilpopgaaGreatDoor
open Go.RowKit Go.Lib
theorem sgn_back_all : ∀ c : Fin 256, tabv (c.val.toUInt8) ≠ 0 → sgn (tabv (c.val.toUInt8) - 1) = c.val.toUInt8 := by decide +kernel
theorem sgn_back (c : UInt8) (h : tabv c ≠ 0) : sgn (tabv c - 1) = c := by
  have e : (c.toNat).toUInt8 = c := by simp
  have := sgn_back_all ⟨c.toNat, c.toNat_lt⟩
  simp only [e] at this
  exact this h
theorem rval_none {c : UInt8} (h : ∀ j, j < 64 → sgn j ≠ c) : rval c = 0 := by
  unfold rval
  by_cases hc : tabv c = 0
  · rw [hc]
  · exact absurd (sgn_back c hc) (h _ (by have := tabv_le c; omega))
set_option maxRecDepth 100000 in
set_option maxHeartbeats 1000000 in
theorem rvalue_any (c : UInt8) (w : World) :
    Calls Tryz.prog 38 #[.string signsS, .int .u8 (c.toNat : Int)] w fun e w' => e = .returned (.int .i64 (rval c : Int)) ∧ w = w' := by
  have hcl := c.toNat_lt
  have hss : signsS.size = 64 := rfl
  obtain ⟨S, hS⟩ : ∃ S, Hid (signsS = S) := ⟨_, Lib.hid rfl⟩
  have hat : ∀ k, k < 64 → S.data[k]? = some (sgn k) := fun k h => by rw [← hS.out]; exact sgn_at k h
  have HAT := hide hat; clear hat
  rw [hS.out] at hss ⊢
  go_enter Tryz.func38, Tryz.ntmps38
  go_wp2_with fail
  go_loopw [5] (fun i wr => ∃ k : Nat, k ≤ 64 ∧ i = .int .i64 k ∧ Hid (∀ j, j < k → sgn j ≠ c) ∧ Hid (w = wr)) (fun i _ => 64 - (RowKit.intOf i).toNat)
  case atStart => exact ⟨0, by omega, rfl, Lib.hid (fun j h => by omega), Lib.hid rfl⟩
  case round =>
    obtain ⟨k, hk, rfl, hI, hw⟩ := hrel
    obtain rfl := hw.out
    rcases Nat.lt_or_ge k 64 with hlt | hge
    · have hkS : (k : Int) < (S.size : Int) := by omega
      have hg := unhide HAT k hlt
      have hgl := (sgn k).toNat_lt
      by_cases hc : sgn k = c
      · have hcc : ((sgn k).toNat : Int) = (c.toNat : Int) := by rw [hc]
        have hres : Hid (rval c = k) := by rw [Hid, ← hc, rval_sgn hlt]
        have HG := hide hg; clear hg
        go_wp2_with (first | (refine wpList_index_str rfl _ _ rfl S k _ rfl rfl rfl (sgn k) (unhide HG) ?_))
        go_ret
        exact ⟨by rw [hres.out]; rfl, rfl⟩
      · have hcc : ((sgn k).toNat : Int) ≠ (c.toNat : Int) := fun e => hc (UInt8.toNat_inj.1 (by omega))
        have HG := hide hg; clear hg
        go_wp2_with (first | (refine wpList_index_str rfl _ _ rfl S k _ rfl rfl rfl (sgn k) (unhide HG) ?_))
        go_roundw
        case rel =>
          refine ⟨k + 1, by omega, by go_num, Lib.hid (fun j h => ?_), Lib.hid trivial⟩
          rcases Nat.lt_succ_iff_lt_or_eq.1 h with h' | rfl
          · exact hI.out j h'
          · exact hc
        case measure => simp [RowKit.intOf]; omega
    · have hkS : ¬ (k : Int) < (S.size : Int) := by omega
      have hres : Hid (rval c = 0) := rval_none (fun j h => hI.out j (by omega))
      go_wp2_with fail
      go_ret
      exact ⟨by rw [hres.out]; rfl, rfl⟩
theorem rgroups_length : ∀ l : List UInt8, (rgroups l).length ≤ l.length
  | [] => by simp [rgroups]
  | [_] => by simp [rgroups]
  | [_, _] => by simp [rgroups]
  | [_, _, _] => by simp [rgroups]
  | a :: b :: c :: d :: r => by
    have := rgroups_length r
    simp [rgroups]
    omega
theorem rgroups_short (l : List UInt8) (h : l.length ≤ 3) : rgroups l = [] := by
  match l, h with
  | [], _ => rfl
  | [_], _ => rfl
  | [_, _], _ => rfl
  | [_, _, _], _ => rfl
theorem rgroups_at (l : List UInt8) (k : Nat) (h : k + 3 < l.length) : rgroups (l.drop k) = [(rfour l[k] l[k + 1] l[k + 2] l[k + 3] / 65536).toUInt8, (rfour l[k] l[k + 1] l[k + 2] l[k + 3] / 256 % 256).toUInt8, (rfour l[k] l[k + 1] l[k + 2] l[k + 3] % 256).toUInt8] ++ rgroups (l.drop (k + 4)) := by
  rw [List.drop_eq_getElem_cons (by omega : k < l.length), List.drop_eq_getElem_cons (by omega : k + 1 < l.length), List.drop_eq_getElem_cons (by omega : k + 1 + 1 < l.length), List.drop_eq_getElem_cons (by omega : k + 1 + 1 + 1 < l.length)]
  rfl
theorem rval_le (c : UInt8) : rval c ≤ 63 := by have := tabv_le c; unfold rval; omega
theorem news3 (w : World) (z0 z1 z2 : Int) (x0 x1 x2 : UInt8) (h0 : z0 = (x0.toNat : Int)) (h1 : z1 = (x1.toNat : Int)) (h2 : z2 = (x2.toNat : Int)) : ∀ j u, (byteCells [x0, x1, x2])[j]? = some u →
    (w.alloc (.cells #[.int .u8 z0, .int .u8 z1, .int .u8 z2] 5)).cell? ((⟨w.heap.size, 0, none⟩ : Addr).add j) = some u := by
  intro j u h
  have hadd : (⟨w.heap.size, 0, none⟩ : Addr).add j = ⟨w.heap.size, j, none⟩ := by unfold Addr.add; split <;> simp_all
  rw [hadd, (Blk.new w 5 _).cell j, ← h, h0, h1, h2]
  simp [byteCells]
theorem OwnB.prefix {w : World} {base : Nat} {p : Option Addr} {m c : Nat} {bs : List UInt8} (h : OwnB w base (.slice p m c) bs) (n : Nat) (hn : n ≤ bs.length) : OwnB w base (.slice p n c) (bs.take n) := by
  rcases h with ⟨hv, rfl⟩ | ⟨g, cap, cur, fz, hv, h1, h2, h3, h4, h5, h6, h7⟩
  · injection hv with e1 e2 e3
    subst e1 e2 e3
    simp at hn
    subst hn
    exact .inl ⟨rfl, rfl⟩
  · injection hv with e1 e2 e3
    subst e1 e2 e3
    refine .inr ⟨g, c, cur, fz, by rw [List.length_take, Nat.min_eq_left hn], h1, h2, h3, by rw [List.length_take]; omega, h5, h6, ?_⟩
    rw [List.length_take, Nat.min_eq_left hn]
    have e : (cur.toList.take bs.length).take n = (byteCells bs).take n := by rw [h7]
    rw [List.take_take, Nat.min_eq_left hn] at e
    rw [e]
    simp [byteCells, List.map_take]
set_option maxRecDepth 100000 in
set_option maxHeartbeats 2000000 in
theorem runb_any (s : ByteArray) (w : World) (hs : s.size ≤ 1099511627776) :
    Calls Tryz.prog 17 #[.string s] w fun e w' => e = .returned (unbA s) ∧ Below w.heap.size w w' := by
  have hll : s.data.toList.length = s.size := Array.length_toList
  go_enter Tryz.func17, Tryz.ntmps17
  go_wp2_with fail
  go_loopw [4, 5] (fun v i wr => ∃ (k : Nat) (acc : List UInt8), i = .int .i64 k ∧ k ≤ s.size + 4 ∧ Hid (acc ++ rgroups (s.data.toList.drop k) = rgroups s.data.toList) ∧ OwnB wr w.heap.size v acc ∧ Below w.heap.size w wr) (fun _ i _ => s.size + 8 - (RowKit.intOf i).toNat)
  case atStart => exact ⟨0, [], rfl, by omega, Lib.hid rfl, OwnB.nil _ _, Below.refl _ _⟩
  case round =>
    obtain ⟨k, acc, rfl, hk, hI, hO, hb⟩ := hrel
    have hgl := rgroups_length s.data.toList
    have hal : Hid (acc.length ≤ s.size) := by
      have h := congrArg List.length hI.out
      rw [List.length_append] at h
      unfold Hid
      omega
    clear hgl
    have HX := hide (And.intro hI (And.intro hO hb)); clear hI hO hb
    rcases Nat.lt_or_ge (k + 3) s.size with hlt | hge
    · have hlt' : (k : Int) + 3 < (s.size : Int) := by omega
      have k0 : (0 : Int) ≤ (k : Int) := by omega
      have hg0 : (s.data.toList[k]'(by omega)) = s[k]'(by omega) := rfl
      have hg1 : (s.data.toList[k + 1]'(by omega)) = s[k + 1]'(by omega) := rfl
      have hg2 : (s.data.toList[k + 2]'(by omega)) = s[k + 2]'(by omega) := rfl
      have hg3 : (s.data.toList[k + 3]'(by omega)) = s[k + 3]'(by omega) := rfl
      have hrg := rgroups_at s.data.toList k (by omega)
      rw [hg0, hg1, hg2, hg3] at hrg
      clear hg0 hg1 hg2 hg3
      have HRG := Lib.hid hrg; clear hrg
      have b0 : k < s.size := by omega
      have b1 : k + 1 < s.size := by omega
      have b2 : k + 2 < s.size := by omega
      have b3 : k + 3 < s.size := by omega
      have i0 : (k : Int) < (s.size : Int) := by omega
      have i1 : (k : Int) + 1 < (s.size : Int) := by omega
      have i2 : (k : Int) + 2 < (s.size : Int) := by omega
      have t0 : (s[k]'b0).toNat < 256 := s[k].toNat_lt
      have t1 : (s[k + 1]'b1).toNat < 256 := s[k + 1].toNat_lt
      have t2 : (s[k + 2]'b2).toNat < 256 := s[k + 2].toNat_lt
      have t3 : (s[k + 3]'b3).toNat < 256 := s[k + 3].toNat_lt
      have l0 := rval_le (s[k]'b0)
      have l1 := rval_le (s[k + 1]'b1)
      have l2 := rval_le (s[k + 2]'b2)
      have l3 := rval_le (s[k + 3]'b3)
      have q1 : IntKind.i64.wrap ((k : Int) + 1) = k + 1 := IntWalk.i64_in _ (by omega)
      have q2 : IntKind.i64.wrap ((k : Int) + 2) = k + 2 := IntWalk.i64_in _ (by omega)
      have q3 : IntKind.i64.wrap ((k : Int) + 3) = k + 3 := IntWalk.i64_in _ (by omega)
      have p1 : ((k : Int) + 1).toNat = k + 1 := by omega
      have p2 : ((k : Int) + 2).toNat = k + 2 := by omega
      have p3 : ((k : Int) + 3).toNat = k + 3 := by omega
      have o1 : 0 ≤ (k : Int) + 1 := by omega
      have o2 : 0 ≤ (k : Int) + 2 := by omega
      have o3 : 0 ≤ (k : Int) + 3 := by omega
      have m0 : IntKind.i64.wrap (((rval (s[k]'b0)) : Int) * 262144) = ((rval (s[k]'b0)) : Int) * 262144 := IntWalk.i64_in _ (by omega)
      have m1 : IntKind.i64.wrap (((rval (s[k + 1]'b1)) : Int) * 4096) = ((rval (s[k + 1]'b1)) : Int) * 4096 := IntWalk.i64_in _ (by omega)
      have m2 : IntKind.i64.wrap (((rval (s[k + 2]'b2)) : Int) * 64) = ((rval (s[k + 2]'b2)) : Int) * 64 := IntWalk.i64_in _ (by omega)
      have a1 : IntKind.i64.wrap (((rval (s[k]'b0)) : Int) * 262144 + ((rval (s[k + 1]'b1)) : Int) * 4096) = ((rval (s[k]'b0)) : Int) * 262144 + ((rval (s[k + 1]'b1)) : Int) * 4096 := IntWalk.i64_in _ (by omega)
      have a2 : IntKind.i64.wrap (((rval (s[k]'b0)) : Int) * 262144 + ((rval (s[k + 1]'b1)) : Int) * 4096 + ((rval (s[k + 2]'b2)) : Int) * 64) = ((rval (s[k]'b0)) : Int) * 262144 + ((rval (s[k + 1]'b1)) : Int) * 4096 + ((rval (s[k + 2]'b2)) : Int) * 64 := IntWalk.i64_in _ (by omega)
      have a3 : IntKind.i64.wrap (((rval (s[k]'b0)) : Int) * 262144 + ((rval (s[k + 1]'b1)) : Int) * 4096 + ((rval (s[k + 2]'b2)) : Int) * 64 + ((rval (s[k + 3]'b3)) : Int)) = ((rval (s[k]'b0)) : Int) * 262144 + ((rval (s[k + 1]'b1)) : Int) * 4096 + ((rval (s[k + 2]'b2)) : Int) * 64 + ((rval (s[k + 3]'b3)) : Int) := IntWalk.i64_in _ (by omega)
      go_wp2_with fail
      go_quiet (first | (go_at_call 38; first | exact quiet_left (rvalue_any _ _)))
      obtain ⟨N, hN⟩ : ∃ N : Nat, Hid (rfour (s[k]'b0) (s[k + 1]'b1) (s[k + 2]'b2) (s[k + 3]'b3) = N) := ⟨_, Lib.hid rfl⟩
      have hNv : ((rval (s[k]'b0) : Int) * 262144 + (rval (s[k + 1]'b1) : Int) * 4096 + (rval (s[k + 2]'b2) : Int) * 64 + (rval (s[k + 3]'b3) : Int)) = (N : Int) := by
        rw [← hN.out]
        unfold rfour
        omega
      rw [hNv]
      have hNb : N ≤ 16777215 := by omega
      rw [hN.out] at HRG
      clear hNv m0 m1 m2 a1 a2 a3 q1 q2 q3 l0 l1 l2 l3
      have x0 : (((N / 65536).toUInt8).toNat : Int) = (N : Int) / 65536 % 256 := by
        have e : ((N / 65536).toUInt8).toNat = (N / 65536) % 256 := UInt8.toNat_ofNat' ..
        rw [e]; omega
      have x1 : (((N / 256 % 256).toUInt8).toNat : Int) = (N : Int) / 256 % 256 := by
        have e : ((N / 256 % 256).toUInt8).toNat = (N / 256 % 256) % 256 := UInt8.toNat_ofNat' ..
        rw [e]; omega
      have x2 : (((N % 256).toUInt8).toNat : Int) = (N : Int) % 256 := by
        have e : ((N % 256).toUInt8).toNat = (N % 256) % 256 := UInt8.toNat_ofNat' ..
        rw [e]; omega
      have HXS := hide (And.intro x0 (And.intro x1 x2)); clear x0 x1 x2
      have hnews := news3 (wr.drewN nq) ((N : Int) / 65536) ((N : Int) / 256 % 256) ((N : Int) % 256) (N / 65536).toUInt8 (N / 256 % 256).toUInt8 (N % 256).toUInt8 (by rw [(unhide HXS).1]; omega) (by rw [(unhide HXS).2.1]) (by rw [(unhide HXS).2.2])
      have HNW := hide hnews; clear hnews
      go_wp2_with (first | (at_builtin; refine wpList_app_cells _ rfl _ _ rfl (((unhide HX).2.1.drewN nq).alloc _) rfl ⟨wr.heap.size, 0, none⟩ 3 3 [(N / 65536).toUInt8, (N / 256 % 256).toUInt8, (N % 256).toUInt8] rfl rfl (unhide HNW) (by have := hal.out; omega) (by have := (unhide HX).2.2.size; simp; omega) ?_; intro v1 w1 hO1 hg1 hat1; have H1 := hide (And.intro hO1 (And.intro hg1 hat1)); clear hO1 hg1 hat1))
      have hb1 : Below w.heap.size w w1 := ((below_drewN (unhide HX).2.2 nq).alloc (by have := (unhide HX).2.2.size; simp; omega) _).grown (unhide H1).2.1 (by have := (unhide HX).2.2.size; simp; omega) (fun q hq => ((unhide HX).2.1.lt _ hq).1)
      go_roundw
      case rel =>
        refine ⟨k + 4, acc ++ [(N / 65536).toUInt8, (N / 256 % 256).toUInt8, (N % 256).toUInt8], by go_num, by omega, ?_, (unhide H1).1, hb1⟩
        rw [Hid, List.append_assoc, ← HRG.out]
        exact (unhide HX).1.out
      case measure => simp [RowKit.intOf]; omega
    · have hge' : ¬ (k : Int) + 3 < (s.size : Int) := by omega
      have hacc : acc = rgroups s.data.toList := by
        have h := (unhide HX).1.out
        rw [rgroups_short _ (by rw [List.length_drop]; omega), List.append_nil] at h
        exact h
      have HA := Lib.hid hacc; clear hacc
      have hund : ∀ c, rcut s.data.toList = c → (acc.length < c → unbA s = .tuple #[.string ⟨#[]⟩, .int .i64 40]) ∧ (c ≤ acc.length → ∀ t : ByteArray, t = ⟨(acc.take (acc.length - c)).toArray⟩ → (b64S t = s → unbA s = .tuple #[.string t, .int .i64 0]) ∧ (b64S t ≠ s → unbA s = .tuple #[.string ⟨#[]⟩, .int .i64 40])) := by
        rintro c rfl
        have hb (t : ByteArray) (ht : b64S t = s) : rundigL s.data.toList = t.data.toList ∧ rcut s.data.toList ≤ (rgroups s.data.toList).length := by
          rw [b64S_list ht]
          exact rundig_b64 _
        refine ⟨fun h => unbA_none (unb64V_none fun t ht => ?_), fun h t ht => ⟨fun h1 => unbA_some (unb64V_of h1), fun h1 => unbA_none (unb64V_none fun t' ht' => h1 ?_)⟩⟩
        · have := (hb t ht).2
          rw [← HA.out] at this
          omega
        · have e := (hb t' ht').1
          have : t = t' := by
            rw [ht]
            apply bs_eq
            show acc.take (acc.length - rcut s.data.toList) = _
            rw [← e, HA.out]
            rfl
          rw [this]
          exact ht'
      have HUND := hide hund; clear hund
      have hal' := hal.out
      have hform : (∃ cap, u4 = .slice none acc.length cap ∧ acc = []) ∨ ∃ g cap, u4 = .slice (some ⟨g, 0, none⟩) acc.length cap ∧ acc.length ≤ cap := by
        rcases (unhide HX).2.1 with ⟨hv, he⟩ | ⟨g, cap, cur, fz, hv, -, -, -, hc, -⟩
        · exact .inl ⟨0, by rw [hv, he]; rfl, he⟩
        · exact .inr ⟨g, cap, hv, hc⟩
      obtain ⟨p, cap, rfl, hcap, hpn⟩ : ∃ p cap, u4 = .slice p acc.length cap ∧ acc.length ≤ cap ∧ (p = none → acc = []) := by
        rcases hform with ⟨cap, hv, he⟩ | ⟨g, cap, hv, hc⟩
        · exact ⟨none, cap, hv, by rw [he]; exact Nat.zero_le _, fun _ => he⟩
        · exact ⟨_, cap, hv, hc, fun h => by cases h⟩
      clear hform
      have hcv : ∀ c, (convert 81 9 (.slice p (acc.length - c) cap)).run Tryz.prog wr = .ok (.string ⟨(acc.take (acc.length - c)).toArray⟩) wr := fun c => conv_own ((unhide HX).2.1.prefix (acc.length - c) (Nat.sub_le _ _))
      have HCV := hide hcv; clear hcv
      have hcv : True := trivial
      rcases Nat.eq_zero_or_pos s.size with h0 | h0
      · have hsn : s.data.toList = [] := List.eq_nil_of_length_eq_zero (by omega)
        have hcut : Hid (rcut s.data.toList = 0) := by rw [Hid, hsn]; rfl
        have hs01 : ¬ (0 : Int) < (s.size : Int) := by omega
        have hs11 : ¬ (1 : Int) < (s.size : Int) := by omega
        clear hsn
        have hres := ((unhide HUND) 0 hcut.out).2 (Nat.zero_le _) _ rfl
        have hgt' : ¬ (acc.length : Int) < 0 := by omega
        have hcv' := unhide HCV 0
        obtain ⟨L, hL⟩ : ∃ L, acc.length - 0 = L := ⟨_, rfl⟩
        rw [hL] at hres hcv'
        have hLi : (acc.length : Int) - 0 = (L : Int) := by omega
        obtain ⟨t, ht⟩ : ∃ t, Hid ((⟨(acc.take L).toArray⟩ : ByteArray) = t) := ⟨_, Lib.hid rfl⟩
        rw [ht.out] at hres hcv'
        have hts : t.size ≤ 1099511627776 := by
          rw [← ht.out]
          show (acc.take L).toArray.size ≤ _
          rw [List.size_toArray, List.length_take]
          omega
        have hrb := rb64_any t wr (by omega)
        have HRES := hide hres; have HRB := hide hrb; clear hres hrb
        have hLc : L ≤ cap := by omega
        go_wp2_with fail
        refine (unhide HRB).mono ?_
        rintro e w1 ⟨rfl, rfl⟩
        obtain ⟨D, HDe⟩ : ∃ D, Hid (b64S t = D) := ⟨_, Lib.hid rfl⟩
        rw [HDe.out] at HRES ⊢
        by_cases he : D = s
        · have hr := Lib.hid ((unhide HRES).1 he)
          subst he
          go_wp2_with fail
          go_ret2
          exact ⟨by rw [hr.out]; rfl, (unhide HX).2.2⟩
        · have hr := Lib.hid ((unhide HRES).2 he)
          have he' := toList_ne he
          go_wp2_with fail
          go_ret2
          exact ⟨by rw [hr.out]; rfl, (unhide HX).2.2⟩
      · have hs01 : (0 : Int) < (s.size : Int) := by omega
        have hlt1 : s.size - 1 < s.size := by omega
        have hix : (s[s.size - 1]'hlt1).toNat < 256 := s[s.size - 1].toNat_lt
        have hm1 : (s.size : Int) - 1 = ((s.size - 1 : Nat) : Int) := by omega
        have hgl : Hid (s.data.toList.getLast? = some s[s.size - 1]) := by
          rw [Hid, List.getLast?_eq_getElem?, hll, List.getElem?_eq_getElem (by omega)]
          rfl
        by_cases hc : s[s.size - 1] = 61
        · have hcc : ((s[s.size - 1].toNat : Int) == 61) = true := by rw [hc]; rfl
          rcases Nat.lt_or_ge 1 s.size with h1 | h1
          · have hs11 : (1 : Int) < (s.size : Int) := by omega
            have hlt2 : s.size - 2 < s.size := by omega
            have hix2 : (s[s.size - 2]'hlt2).toNat < 256 := s[s.size - 2].toNat_lt
            have hm2 : (s.size : Int) - 2 = ((s.size - 2 : Nat) : Int) := by omega
            have hgl2 : Hid (s.data.toList.dropLast.getLast? = some s[s.size - 2]) := by
              rw [Hid, List.getLast?_eq_getElem?, List.length_dropLast, hll, List.getElem?_dropLast, if_pos (by omega), List.getElem?_eq_getElem (by omega)]
              rfl
            by_cases hd : s[s.size - 2] = 61
            · have hcut : Hid (rcut s.data.toList = 2) := by
                unfold rcut
                rw [Hid, hgl.out, hc, if_pos rfl, hgl2.out, hd, if_pos rfl]
              have hdd : ((s[s.size - 2].toNat : Int) == 61) = true := by rw [hd]; rfl
              rcases Nat.lt_or_ge acc.length 2 with hgt | hgt
              · have hres := Lib.hid (((unhide HUND) 2 hcut.out).1 hgt)
                have hgt' : (acc.length : Int) < 2 := by omega
                clear hcv
                go_wp2_with fail
                go_ret2
                exact ⟨by rw [hres.out]; rfl, (unhide HX).2.2⟩
              · have hres := ((unhide HUND) 2 hcut.out).2 hgt _ rfl
                have hgt' : ¬ (acc.length : Int) < 2 := by omega
                have hcv' := unhide HCV 2
                obtain ⟨L, hL⟩ : ∃ L, acc.length - 2 = L := ⟨_, rfl⟩
                rw [hL] at hres hcv'
                have hLi : (acc.length : Int) - 2 = (L : Int) := by omega
                obtain ⟨t, ht⟩ : ∃ t, Hid ((⟨(acc.take L).toArray⟩ : ByteArray) = t) := ⟨_, Lib.hid rfl⟩
                rw [ht.out] at hres hcv'
                have hts : t.size ≤ 1099511627776 := by
                  rw [← ht.out]
                  show (acc.take L).toArray.size ≤ _
                  rw [List.size_toArray, List.length_take]
                  omega
                have hrb := rb64_any t wr (by omega)
                have HRES := hide hres; have HRB := hide hrb; clear hres hrb
                have hLc : L ≤ cap := by omega
                go_wp2_with fail
                refine (unhide HRB).mono ?_
                rintro e w1 ⟨rfl, rfl⟩
                obtain ⟨D, HDe⟩ : ∃ D, Hid (b64S t = D) := ⟨_, Lib.hid rfl⟩
                rw [HDe.out] at HRES ⊢
                by_cases he : D = s
                · have hr := Lib.hid ((unhide HRES).1 he)
                  subst he
                  go_wp2_with fail
                  go_ret2
                  exact ⟨by rw [hr.out]; rfl, (unhide HX).2.2⟩
                · have hr := Lib.hid ((unhide HRES).2 he)
                  have he' := toList_ne he
                  go_wp2_with fail
                  go_ret2
                  exact ⟨by rw [hr.out]; rfl, (unhide HX).2.2⟩
            · have hcut : Hid (rcut s.data.toList = 1) := by
                unfold rcut
                rw [Hid, hgl.out, hc, if_pos rfl, hgl2.out, if_neg (by simpa using hd)]
              have hdd : ((s[s.size - 2].toNat : Int) == 61) = false := by
                rw [beq_eq_false_iff_ne]
                exact fun e => hd (UInt8.toNat_inj.1 (by rw [show (61 : UInt8).toNat = 61 from rfl]; omega))
              rcases Nat.lt_or_ge acc.length 1 with hgt | hgt
              · have hres := Lib.hid (((unhide HUND) 1 hcut.out).1 hgt)
                have hgt' : (acc.length : Int) < 1 := by omega
                clear hcv
                go_wp2_with fail
                go_ret2
                exact ⟨by rw [hres.out]; rfl, (unhide HX).2.2⟩
              · have hres := ((unhide HUND) 1 hcut.out).2 hgt _ rfl
                have hgt' : ¬ (acc.length : Int) < 1 := by omega
                have hcv' := unhide HCV 1
                obtain ⟨L, hL⟩ : ∃ L, acc.length - 1 = L := ⟨_, rfl⟩
                rw [hL] at hres hcv'
                have hLi : (acc.length : Int) - 1 = (L : Int) := by omega
                obtain ⟨t, ht⟩ : ∃ t, Hid ((⟨(acc.take L).toArray⟩ : ByteArray) = t) := ⟨_, Lib.hid rfl⟩
                rw [ht.out] at hres hcv'
                have hts : t.size ≤ 1099511627776 := by
                  rw [← ht.out]
                  show (acc.take L).toArray.size ≤ _
                  rw [List.size_toArray, List.length_take]
                  omega
                have hrb := rb64_any t wr (by omega)
                have HRES := hide hres; have HRB := hide hrb; clear hres hrb
                have hLc : L ≤ cap := by omega
                go_wp2_with fail
                refine (unhide HRB).mono ?_
                rintro e w1 ⟨rfl, rfl⟩
                obtain ⟨D, HDe⟩ : ∃ D, Hid (b64S t = D) := ⟨_, Lib.hid rfl⟩
                rw [HDe.out] at HRES ⊢
                by_cases he : D = s
                · have hr := Lib.hid ((unhide HRES).1 he)
                  subst he
                  go_wp2_with fail
                  go_ret2
                  exact ⟨by rw [hr.out]; rfl, (unhide HX).2.2⟩
                · have hr := Lib.hid ((unhide HRES).2 he)
                  have he' := toList_ne he
                  go_wp2_with fail
                  go_ret2
                  exact ⟨by rw [hr.out]; rfl, (unhide HX).2.2⟩
          · have hs11 : ¬ (1 : Int) < (s.size : Int) := by omega
            have hc0 : s[0]'h0 = 61 := by
              have e : s.size - 1 = 0 := by omega
              simp only [e] at hc
              exact hc
            have hcc0 : ((s[0].toNat : Int) == 61) = true := by rw [hc0]; rfl
            have hcut : Hid (rcut s.data.toList = 1) := by
              unfold rcut
              rw [Hid, hgl.out, hc, if_pos rfl]
              have : s.data.toList.dropLast = [] := List.eq_nil_of_length_eq_zero (by rw [List.length_dropLast]; omega)
              rw [this]
              rfl
            rcases Nat.lt_or_ge acc.length 1 with hgt | hgt
            · have hres := Lib.hid (((unhide HUND) 1 hcut.out).1 hgt)
              have hgt' : (acc.length : Int) < 1 := by omega
              clear hcv
              go_wp2_with fail
              go_ret2
              exact ⟨by rw [hres.out]; rfl, (unhide HX).2.2⟩
            · have hres := ((unhide HUND) 1 hcut.out).2 hgt _ rfl
              have hgt' : ¬ (acc.length : Int) < 1 := by omega
              have hcv' := unhide HCV 1
              obtain ⟨L, hL⟩ : ∃ L, acc.length - 1 = L := ⟨_, rfl⟩
              rw [hL] at hres hcv'
              have hLi : (acc.length : Int) - 1 = (L : Int) := by omega
              obtain ⟨t, ht⟩ : ∃ t, Hid ((⟨(acc.take L).toArray⟩ : ByteArray) = t) := ⟨_, Lib.hid rfl⟩
              rw [ht.out] at hres hcv'
              have hts : t.size ≤ 1099511627776 := by
                rw [← ht.out]
                show (acc.take L).toArray.size ≤ _
                rw [List.size_toArray, List.length_take]
                omega
              have hrb := rb64_any t wr (by omega)
              have HRES := hide hres; have HRB := hide hrb; clear hres hrb
              have hLc : L ≤ cap := by omega
              go_wp2_with fail
              refine (unhide HRB).mono ?_
              rintro e w1 ⟨rfl, rfl⟩
              obtain ⟨D, HDe⟩ : ∃ D, Hid (b64S t = D) := ⟨_, Lib.hid rfl⟩
              rw [HDe.out] at HRES ⊢
              by_cases he : D = s
              · have hr := Lib.hid ((unhide HRES).1 he)
                subst he
                go_wp2_with fail
                go_ret2
                exact ⟨by rw [hr.out]; rfl, (unhide HX).2.2⟩
              · have hr := Lib.hid ((unhide HRES).2 he)
                have he' := toList_ne he
                go_wp2_with fail
                go_ret2
                exact ⟨by rw [hr.out]; rfl, (unhide HX).2.2⟩
        · have hcc : ((s[s.size - 1].toNat : Int) == 61) = false := by
            rw [beq_eq_false_iff_ne]
            exact fun e => hc (UInt8.toNat_inj.1 (by rw [show (61 : UInt8).toNat = 61 from rfl]; omega))
          have hcut : Hid (rcut s.data.toList = 0) := by
            unfold rcut
            rw [Hid, hgl.out, if_neg (by simpa using hc)]
          rcases Nat.lt_or_ge 1 s.size with h1 | h1
          · have hs11 : (1 : Int) < (s.size : Int) := by omega
            have hres := ((unhide HUND) 0 hcut.out).2 (Nat.zero_le _) _ rfl
            have hgt' : ¬ (acc.length : Int) < 0 := by omega
            have hcv' := unhide HCV 0
            obtain ⟨L, hL⟩ : ∃ L, acc.length - 0 = L := ⟨_, rfl⟩
            rw [hL] at hres hcv'
            have hLi : (acc.length : Int) - 0 = (L : Int) := by omega
            obtain ⟨t, ht⟩ : ∃ t, Hid ((⟨(acc.take L).toArray⟩ : ByteArray) = t) := ⟨_, Lib.hid rfl⟩
            rw [ht.out] at hres hcv'
            have hts : t.size ≤ 1099511627776 := by
              rw [← ht.out]
              show (acc.take L).toArray.size ≤ _
              rw [List.size_toArray, List.length_take]
              omega
            have hrb := rb64_any t wr (by omega)
            have HRES := hide hres; have HRB := hide hrb; clear hres hrb
            have hLc : L ≤ cap := by omega
            go_wp2_with fail
            refine (unhide HRB).mono ?_
            rintro e w1 ⟨rfl, rfl⟩
            obtain ⟨D, HDe⟩ : ∃ D, Hid (b64S t = D) := ⟨_, Lib.hid rfl⟩
            rw [HDe.out] at HRES ⊢
            by_cases he : D = s
            · have hr := Lib.hid ((unhide HRES).1 he)
              subst he
              go_wp2_with fail
              go_ret2
              exact ⟨by rw [hr.out]; rfl, (unhide HX).2.2⟩
            · have hr := Lib.hid ((unhide HRES).2 he)
              have he' := toList_ne he
              go_wp2_with fail
              go_ret2
              exact ⟨by rw [hr.out]; rfl, (unhide HX).2.2⟩
          · have hs11 : ¬ (1 : Int) < (s.size : Int) := by omega
            have hc0 : ¬ s[0]'h0 = 61 := by
              have e : s.size - 1 = 0 := by omega
              simp only [e] at hc
              exact hc
            have hcc0 : ((s[0].toNat : Int) == 61) = false := by
              rw [beq_eq_false_iff_ne]
              exact fun e => hc0 (UInt8.toNat_inj.1 (by rw [show (61 : UInt8).toNat = 61 from rfl]; omega))
            have hres := ((unhide HUND) 0 hcut.out).2 (Nat.zero_le _) _ rfl
            have hgt' : ¬ (acc.length : Int) < 0 := by omega
            have hcv' := unhide HCV 0
            obtain ⟨L, hL⟩ : ∃ L, acc.length - 0 = L := ⟨_, rfl⟩
            rw [hL] at hres hcv'
            have hLi : (acc.length : Int) - 0 = (L : Int) := by omega
            obtain ⟨t, ht⟩ : ∃ t, Hid ((⟨(acc.take L).toArray⟩ : ByteArray) = t) := ⟨_, Lib.hid rfl⟩
            rw [ht.out] at hres hcv'
            have hts : t.size ≤ 1099511627776 := by
              rw [← ht.out]
              show (acc.take L).toArray.size ≤ _
              rw [List.size_toArray, List.length_take]
              omega
            have hrb := rb64_any t wr (by omega)
            have HRES := hide hres; have HRB := hide hrb; clear hres hrb
            have hLc : L ≤ cap := by omega
            go_wp2_with fail
            refine (unhide HRB).mono ?_
            rintro e w1 ⟨rfl, rfl⟩
            obtain ⟨D, HDe⟩ : ∃ D, Hid (b64S t = D) := ⟨_, Lib.hid rfl⟩
            rw [HDe.out] at HRES ⊢
            by_cases he : D = s
            · have hr := Lib.hid ((unhide HRES).1 he)
              subst he
              go_wp2_with fail
              go_ret2
              exact ⟨by rw [hr.out]; rfl, (unhide HX).2.2⟩
            · have hr := Lib.hid ((unhide HRES).2 he)
              have he' := toList_ne he
              go_wp2_with fail
              go_ret2
              exact ⟨by rw [hr.out]; rfl, (unhide HX).2.2⟩
end Go.Proofs.YtphoflcilpopgaaGreatDoor

set_option linter.unusedVariables false
set_option linter.unusedSimpArgs false
namespace Go.Proofs.YtphoflcilpopgaaGreatDoor
open Go.RowKit Go.Lib
theorem occ_one (r : List UInt8) (c : UInt8) (i : Nat) (hi : i < r.length) : occAt r [c] i = (c == r[i]) := by
  unfold occAt
  rw [List.drop_eq_getElem_cons hi]
  simp [List.isPrefixOf]
theorem cut_at (r : List UInt8) (k : Nat) (hk : k < r.length) (h : r[k] = 32) (hn : ∀ j (hj : j < r.length), j < k → r[j] ≠ 32) : Lib.cut r [32] = (r.take k, r.drop (k + 1), true) := by
  have hi : Lib.index r [32] = (k : Int) := Lib.index_first (by omega) (by rw [occ_one r 32 k hk, h]; rfl) (fun j hj => by rw [occ_one r 32 j (by omega)]; have := hn j (by omega) hj; simp; exact fun e => this e.symm)
  unfold Lib.cut
  rw [hi, if_pos (by omega)]
  simp
theorem cut_no (r : List UInt8) (hn : ∀ j (hj : j < r.length), r[j] ≠ 32) : Lib.cut r [32] = (r, [], false) := by
  have hi : Lib.index r [32] = -1 := Lib.index_none (fun j hj => by
    rcases Nat.lt_or_ge j r.length with h | h
    · rw [occ_one r 32 j h]; have := hn j h; simp; exact fun e => this e.symm
    · unfold occAt; rw [List.drop_eq_nil_of_le h]; rfl)
  unfold Lib.cut
  rw [hi, if_neg (by omega)]
theorem pre_iff (l : ByteArray) (h : 4 ≤ l.size) : l.extract 0 4 = (⟨#[226, 128, 148, 32]⟩ : ByteArray) ↔ hasPrefix l.data.toList [226, 128, 148, 32] = true := by
  have hll : l.data.toList.length = l.size := Array.length_toList
  have he : (l.extract 0 4).data.toList = l.data.toList.take 4 := by
    rw [ByteArray.data_extract, Array.toList_extract, List.extract_eq_take_drop]; simp
  unfold hasPrefix
  rw [List.isPrefixOf_iff_prefix, List.prefix_iff_eq_take]
  constructor
  · intro e
    rw [e] at he
    exact he
  · intro e
    refine ByteArray.ext (Array.toList_inj.1 ?_)
    rw [he]
    exact e.symm
theorem pre_short (l : ByteArray) (h : l.size < 4) : hasPrefix l.data.toList [226, 128, 148, 32] = false := by
  have hll : l.data.toList.length = l.size := Array.length_toList
  unfold hasPrefix
  rw [Bool.eq_false_iff]
  intro e
  have := (List.isPrefixOf_iff_prefix.1 e).length_le
  simp at this
  omega
set_option maxRecDepth 100000 in
set_option maxHeartbeats 4000000 in
theorem rsig_any (l : ByteArray) (w : World) (hs : l.size ≤ 1048576) :
    Calls Tryz.prog 32 #[.string l] w fun e w' => e = .returned (sigA l) ∧ Below w.heap.size w w' := by
  have hll : l.data.toList.length = l.size := Array.length_toList
  have hB0 : Blk (w.alloc (.cells #[.string ⟨#[]⟩, .string ⟨#[]⟩, .string ⟨#[]⟩] 43)) w.heap.size 43 #[.string ⟨#[]⟩, .string ⟨#[]⟩, .string ⟨#[]⟩] := Blk.new w _ _
  have hb0 : Below w.heap.size w (w.alloc (.cells #[.string ⟨#[]⟩, .string ⟨#[]⟩, .string ⟨#[]⟩] 43)) := (Below.refl _ _).alloc (Nat.le_refl _) _
  generalize hw0 : (w.alloc (.cells #[.string ⟨#[]⟩, .string ⟨#[]⟩, .string ⟨#[]⟩] 43)) = w0 at hB0 hb0
  have HW0 := Lib.hid hw0; clear hw0
  have hB3 := blk3_store hB0 (.string ⟨#[]⟩) (.string ⟨#[]⟩) (.string ⟨#[]⟩)
  have hb3 := below3_store hb0 (Nat.le_refl w.heap.size) (.string ⟨#[]⟩) (.string ⟨#[]⟩) (.string ⟨#[]⟩)
  have H0 := hide (And.intro hB0 (And.intro hb0 (And.intro hB3 hb3))); clear hB0 hb0 hB3 hb3
  have r0 := (unhide H0).1.cell 0; have r1 := (unhide H0).1.cell 1; have r2 := (unhide H0).1.cell 2; have f0 := (unhide H0).1.frozen 0; have f1 := (unhide H0).1.frozen 1; have f2 := (unhide H0).1.frozen 2
  simp only [List.getElem?_toArray, List.getElem?_cons_zero, List.getElem?_cons_succ] at r0 r1 r2
  rcases Nat.lt_or_ge l.size 4 with h4 | h4
  · have hpf := pre_short l h4
    have hsp' : Hid (sigA l = .tuple #[sigV noSig, .bool false]) := sigA_none (by unfold sigP; rw [hpf]; rfl)
    have h4' : (l.size : Int) < 4 := by omega
    go_enter Tryz.func32, Tryz.ntmps32
    go_wp2_with fail
    rw [HW0.out]
    (try simp only [Exit.inBlock, Exit.then])
    refine bodyPost_ret (results_sig rfl _ _ w.heap.size _ _ _ rfl (unhide H0).1) rfl ?_
    exact ⟨by rw [hsp'.out]; rfl, (unhide H0).2.1⟩
  · have h4' : ¬ (l.size : Int) < 4 := by omega
    have i4 : (4 : Int) ≤ (l.size : Int) := by omega
    by_cases hd : l.extract 0 4 = (⟨#[226, 128, 148, 32]⟩ : ByteArray)
    · have hpf := (pre_iff l h4).1 hd
      have hdd : (!(l.extract 0 4).toList == (⟨#[226, 128, 148, 32]⟩ : ByteArray).toList) = false := by rw [hd, beq_self_eq_true]; rfl
      go_enter Tryz.func32, Tryz.ntmps32
      go_wp2_with fail
      rw [HW0.out]
      have hsp : Hid (sigP l = if (Lib.cut (l.data.toList.drop 4) [32]).2.2 = true then sigOf2 ⟨(Lib.cut (l.data.toList.drop 4) [32]).1.toArray⟩ ⟨(Lib.cut (l.data.toList.drop 4) [32]).2.1.toArray⟩ else none) := by unfold sigP; rw [Hid, if_pos hpf]
      have hre : (l.extract 4 l.size).data.toList = l.data.toList.drop 4 := by
        rw [ByteArray.data_extract, Array.toList_extract, List.extract_eq_take_drop, List.take_of_length_le]
        rw [List.length_drop]; omega
      rw [← hre] at hsp
      have hrz : (l.extract 4 l.size).size ≤ l.size := by rw [ByteArray.size_extract]; omega
      generalize l.extract 4 l.size = r at *
      have hrl : r.data.toList.length = r.size := Array.length_toList
      have HSP := hide hsp; clear hsp hre hdd hd hpf i4 h4'
      go_loopw [4] (fun i wr => ∃ k : Nat, i = .int .i64 k ∧ k ≤ r.size ∧ Hid (wr = w0) ∧ Hid (∀ j (hj : j < r.data.toList.length), j < k → r.data.toList[j] ≠ 32)) (fun i _ => r.size - (RowKit.intOf i).toNat)
      case atStart => exact ⟨0, rfl, by omega, Lib.hid rfl, Lib.hid (fun j _ h => by omega)⟩
      case round =>
        obtain ⟨k, rfl, hk, hw, hne⟩ := hrel
        have hw' := hw.out
        subst hw'
        rcases Nat.lt_or_ge k r.size with hlt | hge
        · have hb : r.data.toList[k]'(by omega) = r[k] := rfl
          by_cases h32 : r[k] = 32
          · have hct := cut_at r.data.toList k (by omega) (by rw [hb]; exact h32) (fun j hj h => hne.out j hj h)
            have hnm : (⟨(r.data.toList.take k).toArray⟩ : ByteArray) = r.extract 0 k := by
              refine ByteArray.ext (Array.toList_inj.1 ?_)
              rw [ByteArray.data_extract, Array.toList_extract, List.extract_eq_take_drop]; simp
            have hcd : (⟨(r.data.toList.drop (k + 1)).toArray⟩ : ByteArray) = r.extract (k + 1) r.size := by
              refine ByteArray.ext (Array.toList_inj.1 ?_)
              rw [ByteArray.data_extract, Array.toList_extract, List.extract_eq_take_drop, List.take_of_length_le]
              rw [List.length_drop]; omega
            have hsp2 : Hid (sigP l = sigOf2 (r.extract 0 k) (r.extract (k + 1) r.size)) := by rw [Hid, unhide HSP, hct]; show sigOf2 ⟨(r.data.toList.take k).toArray⟩ ⟨(r.data.toList.drop (k + 1)).toArray⟩ = _; rw [hnm, hcd]
            have hz1 : (r.extract 0 k).size ≤ l.size := by rw [ByteArray.size_extract]; omega
            have hz2 : (r.extract (k + 1) r.size).size ≤ l.size := by rw [ByteArray.size_extract]; omega
            have hna := fun W => rname_any (r.extract 0 k) W (by simp only [maxLen]; omega)
            have hub := fun W => runb_any (r.extract (k + 1) r.size) W (by omega)
            have HN := hide (And.intro hna hub); clear hna hub hct hnm hcd hne
            have i1 : (k : Int) < (r.size : Int) := by omega
            have i2 : (k : Int) + 1 ≤ (r.size : Int) := by omega
            have h32' : ((r[k].toNat : Int) == 32) = true := by rw [h32]; rfl
            go_wp2_with fail
            refine ((unhide HN).1 _).mono ?_
            rintro e w1 ⟨rfl, rfl⟩
            have hub := (unhide HN).2 wr
            clear r0 r1 r2 f0 f1 f2
            cases hv : unb64V (r.extract (k + 1) r.size) with
            | none =>
              rw [unbA_none hv] at hub
              have hsp' : Hid (sigA l = .tuple #[sigV noSig, .bool false]) := sigA_none (by rw [hsp2.out]; unfold sigOf2; rw [hv]; split <;> rfl)
              have HU := hide hub; clear hub
              obtain ⟨nb, hnb⟩ : ∃ nb, nameOk (r.extract 0 k) = nb := ⟨_, rfl⟩
              rw [hnb]
              go_wp2_with fail
              refine (unhide HU).mono ?_
              rintro e w3 ⟨rfl, hb3⟩
              have hB3 := (unhide H0).1.below hb3 (unhide H0).1.lt
              have hb3' := (unhide H0).2.1.trans (hb3.mono (unhide H0).2.1.size)
              have r0 := hB3.cell 0; have r1 := hB3.cell 1; have r2 := hB3.cell 2; have f0 := hB3.frozen 0; have f1 := hB3.frozen 1; have f2 := hB3.frozen 2
              simp only [List.getElem?_toArray, List.getElem?_cons_zero, List.getElem?_cons_succ] at r0 r1 r2
              have H3 := hide (And.intro (blk3_store hB3 (.string ⟨#[]⟩) (.string ⟨#[]⟩) (.string ⟨#[]⟩)) (below3_store hb3' (Nat.le_refl w.heap.size) (.string ⟨#[]⟩) (.string ⟨#[]⟩) (.string ⟨#[]⟩)))
              clear hB3 hb3 hb3' hnb
              cases nb with
              | true =>
                go_wp2_with fail
                (try simp only [Exit.inBlock, Exit.then])
                refine bodyPost_ret (results_sig rfl _ _ w.heap.size _ _ _ rfl (unhide H3).1) rfl ?_
                exact ⟨by rw [hsp'.out]; rfl, (unhide H3).2⟩
              | false =>
                go_wp2_with fail
                (try simp only [Exit.inBlock, Exit.then])
                refine bodyPost_ret (results_sig rfl _ _ w.heap.size _ _ _ rfl (unhide H3).1) rfl ?_
                exact ⟨by rw [hsp'.out]; rfl, (unhide H3).2⟩
            | some b =>
              rw [unbA_some hv] at hub
              have HU := hide hub; clear hub
              by_cases hno : nameOk (r.extract 0 k) = true
              · rw [hno]
                go_wp2_with fail
                refine (unhide HU).mono ?_
                rintro e w3 ⟨rfl, hb3⟩
                have hB3 := (unhide H0).1.below hb3 (unhide H0).1.lt
                have hb3' := (unhide H0).2.1.trans (hb3.mono (unhide H0).2.1.size)
                have r0 := hB3.cell 0; have r1 := hB3.cell 1; have r2 := hB3.cell 2; have f0 := hB3.frozen 0; have f1 := hB3.frozen 1; have f2 := hB3.frozen 2
                simp only [List.getElem?_toArray, List.getElem?_cons_zero, List.getElem?_cons_succ] at r0 r1 r2
                by_cases h36 : b.size = 36
                · have hsp' : Hid (sigA l = .tuple #[sigV ⟨r.extract 0 k, b.extract 0 4, b.extract 4 36⟩, .bool true]) := sigA_some (by rw [hsp2.out]; unfold sigOf2; rw [if_pos hno, hv]; show (if b.size = 36 then _ else _) = _; rw [if_pos h36])
                  have H3 := hide (And.intro (blk3_store hB3 (.string (r.extract 0 k)) (.string (b.extract 0 4)) (.string (b.extract 4 36))) (below3_store hb3' (Nat.le_refl w.heap.size) (.string (r.extract 0 k)) (.string (b.extract 0 4)) (.string (b.extract 4 36))))
                  clear hB3 hb3 hb3'
                  have h36' : ((b.size : Int) == 36) = true := by rw [beq_iff_eq]; omega
                  have i1 : (4 : Int) ≤ (b.size : Int) := by omega
                  go_wp2_with fail
                  go_region
                  go_wp2_with fail
                  (try simp only [Exit.inBlock, Exit.then])
                  refine bodyPost_ret (results_sig rfl _ _ w.heap.size _ _ _ rfl (unhide H3).1.drew) rfl ?_
                  exact ⟨by rw [hsp'.out]; rfl, (unhide H3).2.drew⟩
                · have hsp' : Hid (sigA l = .tuple #[sigV noSig, .bool false]) := sigA_none (by rw [hsp2.out]; unfold sigOf2; rw [if_pos hno, hv]; show (if b.size = 36 then _ else _) = _; rw [if_neg h36])
                  have h36' : ((b.size : Int) == 36) = false := by rw [beq_eq_false_iff_ne]; omega
                  have H3 := hide (And.intro (blk3_store hB3 (.string ⟨#[]⟩) (.string ⟨#[]⟩) (.string ⟨#[]⟩)) (below3_store hb3' (Nat.le_refl w.heap.size) (.string ⟨#[]⟩) (.string ⟨#[]⟩) (.string ⟨#[]⟩)))
                  clear hB3 hb3 hb3'
                  go_wp2_with fail
                  (try simp only [Exit.inBlock, Exit.then])
                  refine bodyPost_ret (results_sig rfl _ _ w.heap.size _ _ _ rfl (unhide H3).1) rfl ?_
                  exact ⟨by rw [hsp'.out]; rfl, (unhide H3).2⟩
              · have hno' : nameOk (r.extract 0 k) = false := by simpa using hno
                have hsp' : Hid (sigA l = .tuple #[sigV noSig, .bool false]) := sigA_none (by rw [hsp2.out]; unfold sigOf2; rw [if_neg hno])
                rw [hno']
                go_wp2_with fail
                refine (unhide HU).mono ?_
                rintro e w3 ⟨rfl, hb3⟩
                have hB3 := (unhide H0).1.below hb3 (unhide H0).1.lt
                have hb3' := (unhide H0).2.1.trans (hb3.mono (unhide H0).2.1.size)
                have r0 := hB3.cell 0; have r1 := hB3.cell 1; have r2 := hB3.cell 2; have f0 := hB3.frozen 0; have f1 := hB3.frozen 1; have f2 := hB3.frozen 2
                simp only [List.getElem?_toArray, List.getElem?_cons_zero, List.getElem?_cons_succ] at r0 r1 r2
                have H3 := hide (And.intro (blk3_store hB3 (.string ⟨#[]⟩) (.string ⟨#[]⟩) (.string ⟨#[]⟩)) (below3_store hb3' (Nat.le_refl w.heap.size) (.string ⟨#[]⟩) (.string ⟨#[]⟩) (.string ⟨#[]⟩)))
                clear hB3 hb3 hb3'
                go_wp2_with fail
                (try simp only [Exit.inBlock, Exit.then])
                refine bodyPost_ret (results_sig rfl _ _ w.heap.size _ _ _ rfl (unhide H3).1) rfl ?_
                exact ⟨by rw [hsp'.out]; rfl, (unhide H3).2⟩
          · have hne' : Hid (∀ j (hj : j < r.data.toList.length), j < k + 1 → r.data.toList[j] ≠ 32) := fun j hj h => by
              rcases Nat.lt_or_ge j k with h' | h'
              · exact hne.out j hj h'
              · obtain rfl : j = k := by omega
                rw [hb]; exact h32
            clear hne
            have h32' : ((r[k].toNat : Int) == 32) = false := by
              rw [beq_eq_false_iff_ne]
              intro e
              exact h32 (UInt8.toNat_inj.1 (by have : r[k].toNat = 32 := by omega
                                               rw [this]; rfl))
            go_wp2_with fail
            refine ⟨⟨k + 1, by go_num, by omega, Lib.hid trivial, hne'⟩, by simp [RowKit.intOf]; omega⟩
        · have hct := cut_no r.data.toList (fun j hj => hne.out j hj (by omega))
          have hsp' : Hid (sigA l = .tuple #[sigV noSig, .bool false]) := sigA_none (by rw [unhide HSP, hct]; rfl)
          clear hct hne
          go_wp2_with fail
          (try simp only [Exit.inBlock, Exit.then])
          refine bodyPost_ret (results_sig rfl _ _ w.heap.size _ _ _ rfl (unhide H0).2.2.1) rfl ?_
          exact ⟨by rw [hsp'.out]; rfl, (unhide H0).2.2.2⟩
    · have hpf : hasPrefix l.data.toList [226, 128, 148, 32] = false := by rw [Bool.eq_false_iff]; exact fun e => hd ((pre_iff l h4).2 e)
      have hsp' : Hid (sigA l = .tuple #[sigV noSig, .bool false]) := sigA_none (by unfold sigP; rw [hpf]; rfl)
      have hdd : (!(l.extract 0 4).toList == [226, 128, 148, 32]) = true := by
        have e : (⟨#[226, 128, 148, 32]⟩ : ByteArray).toList = [226, 128, 148, 32] := by kernel_rfl
        rw [← e, toList_ne hd]; rfl
      go_enter Tryz.func32, Tryz.ntmps32
      go_wp2_with fail
      rw [HW0.out]
      (try simp only [Exit.inBlock, Exit.then])
      refine bodyPost_ret (results_sig rfl _ _ w.heap.size _ _ _ rfl (unhide H0).1) rfl ?_
      exact ⟨by rw [hsp'.out]; rfl, (unhide H0).2.1⟩
end Go.Proofs.YtphoflcilpopgaaGreatDoor

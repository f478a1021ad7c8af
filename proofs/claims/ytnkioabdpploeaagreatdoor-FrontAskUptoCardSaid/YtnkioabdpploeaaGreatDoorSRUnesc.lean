/-
  CONTRACT of the document's Unescape.
-/
import Derived.Test.YtnkioabdpploeaaGreatDoorRows
import Derived.StillTailTactics
import Derived.Deep.RegionHeld3
import Derived.Test.YtnkioabdpploeaaGreatDoorGBase
import Derived.Test.YtnkioabdpploeaaGreatDoorGDecs
import Derived.Test.YtnkioabdpploeaaGreatDoorSREsc
import Derived.Test.YtnkioabdpploeaaGreatDoorSUnescP
import Derived.Test.YtnkioabdpploeaaGreatDoorSUnesc
set_option linter.unusedVariables false
set_option linter.unusedSimpArgs false
namespace Go.Proofs.YtnkioabdpploeaaGreatDoor
open Go.RowKit Go.Lib
theorem hexB_at (k : Nat) (h : k < 16) : hexS.data[k]? = some (hexB k) := by
  have e : ∀ n : Fin 16, hexS.data[n.val]? = some (hexB n.val) := by decide
  exact e ⟨k, h⟩
theorem hexB_back_all : ∀ c : Fin 256, bv (c.val.toUInt8) ≠ 0 → hexB (bv (c.val.toUInt8) - 1) = c.val.toUInt8 := by decide +kernel
theorem hexB_back (c : UInt8) (h : bv c ≠ 0) : hexB (bv c - 1) = c := by
  have e : (c.toNat).toUInt8 = c := by simp
  have := hexB_back_all ⟨c.toNat, c.toNat_lt⟩
  simp only [e] at this
  exact this h
theorem bv_none {c : UInt8} (h : ∀ j, j < 16 → hexB j ≠ c) : bv c - 1 = 0 := by
  by_cases hc : bv c = 0
  · rw [hc]
  · exact absurd (hexB_back c hc) (h _ (by have := bv_le c; omega))
set_option maxRecDepth 100000 in
set_option maxHeartbeats 1000000 in
theorem rvalH_any (c : UInt8) (w : World) :
    Calls Tryz.prog 70 #[.string hexS, .int .u8 (c.toNat : Int)] w fun e w' => e = .returned (.int .i64 ((bv c - 1 : Nat) : Int)) ∧ w' = w := by
  have hcl := c.toNat_lt
  have hss : hexS.size = 16 := rfl
  obtain ⟨S, hS⟩ : ∃ S, Hid (hexS = S) := ⟨_, Lib.hid rfl⟩
  have hat : ∀ k, k < 16 → S.data[k]? = some (hexB k) := fun k h => by rw [← hS.out]; exact hexB_at k h
  have HAT := hide hat; clear hat
  rw [hS.out] at hss ⊢
  go_enter Tryz.func70, Tryz.ntmps70
  go_wp2_with fail
  go_loopw [5] (fun i wr => ∃ k : Nat, k ≤ 16 ∧ i = .int .i64 k ∧ Hid (∀ j, j < k → hexB j ≠ c) ∧ Hid (w = wr)) (fun i _ => 16 - (RowKit.intOf i).toNat)
  case atStart => exact ⟨0, by omega, rfl, Lib.hid (fun j h => by omega), Lib.hid rfl⟩
  case round =>
    obtain ⟨k, hk, rfl, hI, hw⟩ := hrel
    obtain rfl := hw.out
    rcases Nat.lt_or_ge k 16 with hlt | hge
    · have hkS : (k : Int) < (S.size : Int) := by omega
      have hg := unhide HAT k hlt
      have hgl := (hexB k).toNat_lt
      by_cases hc : hexB k = c
      · have hcc : ((hexB k).toNat : Int) = (c.toNat : Int) := by rw [hc]
        have hres : Hid (bv c - 1 = k) := by
          have := bv_hex ⟨k, hlt⟩
          simp only at this
          rw [Hid, ← hc, this]; rfl
        have HG := hide hg; clear hg
        go_wp2_with (first | (refine wpList_index_str rfl _ _ rfl S k _ rfl rfl rfl (hexB k) (unhide HG) ?_))
        go_ret
        exact ⟨by rw [hres.out]; rfl, rfl⟩
      · have hcc : ((hexB k).toNat : Int) ≠ (c.toNat : Int) := fun e => hc (UInt8.toNat_inj.1 (by omega))
        have HG := hide hg; clear hg
        go_wp2_with (first | (refine wpList_index_str rfl _ _ rfl S k _ rfl rfl rfl (hexB k) (unhide HG) ?_))
        go_roundw
        case rel =>
          refine ⟨k + 1, by omega, by go_num, Lib.hid (fun j h => ?_), Lib.hid trivial⟩
          rcases Nat.lt_succ_iff_lt_or_eq.1 h with h' | rfl
          · exact hI.out j h'
          · exact hc
        case measure => simp [RowKit.intOf]; omega
    · have hkS : ¬ (k : Int) < (S.size : Int) := by omega
      have hres : Hid (bv c - 1 = 0) := bv_none (fun j h => hI.out j (by omega))
      go_wp2_with fail
      go_ret
      exact ⟨by rw [hres.out]; rfl, rfl⟩
theorem below_app1 {B : Nat} {w W W' : World} {v : Value} {bs : List UInt8} {o : Obj} (hb : Below B w W) (hO : OwnB W B v bs) (hW : B ≤ W.heap.size) (hg : (W.alloc o).grownBy W' v.ownBlock) : Below B w W' :=
  (hb.alloc hW o).grown hg (by simp; omega) (fun k hk => (hO.lt k hk).1)
set_option maxRecDepth 100000 in
set_option maxHeartbeats 4000000 in
theorem runesc_any (s : ByteArray) (w : World) (hs : s.size ≤ 1099511627776) :
    Calls Tryz.prog 48 #[.string s] w fun e w' => e = .returned (unA s) ∧ Below w.heap.size w w' := by
  by_cases hp : s = pctS
  · subst hp
    have hr : unA pctS = .tuple #[.string ⟨#[]⟩, .int .i64 0] := rfl
    rw [hr]
    clear hr
    unfold pctS
    go_enter Tryz.func48, Tryz.ntmps48
    go_wp2_with fail
    go_ret2
    exact ⟨rfl, Below.refl _ _⟩
  · have hp2 : (s.toList == [37]) = false := by
      have h := toList_ne (b := ⟨#[37]⟩) hp
      rwa [show (⟨#[37]⟩ : ByteArray).toList = [37] from by kernel_rfl] at h
    have hp1 : ¬ s.toList = [37] := by rw [beq_eq_false_iff_ne] at hp2; exact hp2
    obtain ⟨l, hl⟩ : ∃ l, Hid (s.data.toList = l) := ⟨_, Lib.hid rfl⟩
    have hll : Hid (l.length = s.size) := Lib.hid (by rw [← hl.out]; exact Array.length_toList)
    have hres : Hid (unA s = match (if escS ⟨(unD l).toArray⟩ = s then some ⟨(unD l).toArray⟩ else none : Option ByteArray) with | some t => .tuple #[.string t, .int .i64 0] | none => .tuple #[.string ⟨#[]⟩, .int .i64 44]) := Lib.hid (by
      unfold unA unE unDS
      rw [if_neg hp, hl.out]
      rfl)
    clear hp
    go_enter Tryz.func48, Tryz.ntmps48
    go_wp2_with fail
    go_loopw [4, 5] (fun b i W => ∃ (k : Nat) (out : List UInt8), k ≤ s.size ∧ i = .int .i64 (k : Int) ∧ Hid (out ++ unD (l.drop k) = unD l) ∧ Hid (out.length ≤ k) ∧ OwnB W w.heap.size b out ∧ Below w.heap.size w W) (fun _ i _ => s.size - (RowKit.intOf i).toNat)
    case atStart => exact ⟨0, [], by omega, rfl, Lib.hid (by simp), Lib.hid (by simp), OwnB.nil _ _, Below.refl _ _⟩
    case round =>
      obtain ⟨k, out, hk, rfl, hI, hol, hO, hb⟩ := hrel
      rcases Nat.lt_or_ge k s.size with hlt | hge
      · have t0 : (0 : Int) ≤ (k : Int) := by omega
        have t1 : (k : Int) < (s.size : Int) := by omega
        have hkl : k < l.length := by have := hll.out; omega
        have hgk : Hid (l[k] = s[k]) := Lib.hid (by have h := hl.out; subst h; rfl)
        have hdr : Hid (l.drop k = s[k] :: l.drop (k + 1)) := Lib.hid (by rw [List.drop_eq_getElem_cons hkl, hgk.out])
        have HX := hide (And.intro hO hb); clear hO hb
        by_cases hc : s[k] = 37 ∧ k + 2 < s.size
        · obtain ⟨hc, h2⟩ := hc
          have q1 : ((s[k].toNat : Int) == 37) = true := by rw [hc]; rfl
          have q2 : (s[k].toNat : Int) = 37 := by rw [hc]; rfl
          have u1 : (k : Int) + 2 < (s.size : Int) := by omega
          have u2 : k + 1 < s.size := by omega
          have hk1 : k + 1 < l.length := by have := hll.out; omega
          have hk2 : k + 2 < l.length := by have := hll.out; omega
          have hI2 : Hid ((out ++ [hx s[k + 1] s[k + 2]]) ++ unD (l.drop (k + 3)) = unD l) := Lib.hid (by
            rw [← hI.out, hdr.out, hc, List.drop_eq_getElem_cons hk1, List.drop_eq_getElem_cons hk2]
            have h := hl.out; subst h
            rw [show (s.data.toList)[k + 1] = s[k + 1] from rfl, show (s.data.toList)[k + 2] = s[k + 2] from rfl, unD_x]
            simp)
          have z1 : IntKind.i64.wrap ((k : Int) + 1) = k + 1 := IntWalk.i64_in _ (by omega)
          have z2 : IntKind.i64.wrap ((k : Int) + 2) = k + 2 := IntWalk.i64_in _ (by omega)
          have p1 : ((k : Int) + 1).toNat = k + 1 := by omega
          have p2 : ((k : Int) + 2).toNat = k + 2 := by omega
          have o1 : 0 ≤ (k : Int) + 1 := by omega
          have o2 : 0 ≤ (k : Int) + 2 := by omega
          have i1 : (k : Int) + 1 < (s.size : Int) := by omega
          have hA := fun W => rvalH_any s[k + 1] W
          have hB := fun W => rvalH_any s[k + 2] W
          have la : bv s[k + 1] - 1 ≤ 15 := by have := bv_le s[k + 1]; omega
          have lb : bv s[k + 2] - 1 ≤ 15 := by have := bv_le s[k + 2]; omega
          have hxx : Hid (hx s[k + 1] s[k + 2] = (16 * (bv s[k + 1] - 1) + (bv s[k + 2] - 1)).toUInt8) := Lib.hid rfl
          obtain ⟨S, hS⟩ : ∃ S, Hid (hexS = S) := ⟨_, Lib.hid rfl⟩
          generalize bv s[k + 1] - 1 = A at *
          generalize bv s[k + 2] - 1 = B at *
          unfold hexS at hA hB
          have HA := hide hA; have HB := hide hB; clear hA hB hI hdr hgk
          have x1 : IntKind.i64.wrap (16 * (A : Int)) = 16 * A := IntWalk.i64_in _ (by omega)
          have x2 : IntKind.i64.wrap (16 * (A : Int) + B) = 16 * A + B := IntWalk.i64_in _ (by omega)
          have x3 : IntKind.u8.wrap (16 * (A : Int) + B) = 16 * A + B := by
            have := or16 A B (by omega) (by omega)
            have e : ∀ n : Fin 256, IntKind.u8.wrap (n.val : Int) = n.val := by decide
            have := e ⟨16 * A + B, by omega⟩
            simpa using this
          go_wp2_with fail
          have hob : out.length + 1 ≤ 140737488355328 := by have := hol.out; omega
          have hx5 : 16 * (A : Int) + B = ((hx s[k + 1] s[k + 2]).toNat : Int) := by
            rw [hxx.out]
            show _ = (((16 * A + B) % 256 : Nat) : Int)
            omega
          generalize hx s[k + 1] s[k + 2] = hc2 at *
          have HX5 := hide hx5; clear hx5 hxx
          go_region_held3 (fun _ => True) (trivial) (first
            | (go_at_call 70; with_reducible refine ((unhide HA) _).mono ?_; rintro e5 w5 ⟨rfl, rfl⟩)
            | (go_at_call 70; with_reducible refine ((unhide HB) _).mono ?_; rintro e6 w6 ⟨rfl, rfl⟩)
            | (refine step_appB rfl (.tmp 25) (.tmp 39) rfl ((unhide HX).1.alloc _).drew rfl ⟨wr.heap.size, 0, none⟩ 1 1 [hc2] rfl rfl (news1x wr _ _ (unhide HX5)) hob (by have := (unhide HX).2.size; simp; omega) ?_; intro v1 w3 hO1 hg1 hat1; have H1 := hide (And.intro hO1 (below_app1 (unhide HX).2 (unhide HX).1 (unhide HX).2.size (o := .cells #[.int .u8 (16 * (A : Int) + B)] 5) ⟨hg1.os, hg1.tape, hg1.output, hg1.size, hg1.block⟩)); clear hO1 hg1 hat1))
          all_goals
            go_wp2_with fail
            refine ⟨⟨k + 3, out ++ [hc2], by omega, by go_num, hI2, Lib.hid (by have := hol.out; simp; omega), (unhide H1).1, (unhide H1).2⟩, by simp [RowKit.intOf]; omega⟩
        · have hI2 : Hid ((out ++ [s[k]]) ++ unD (l.drop (k + 1)) = unD l) := Lib.hid (by
            rw [← hI.out, hdr.out, unD_c]
            · simp
            · rcases Decidable.em (s[k] = 37) with h | h
              · exact .inr (by rw [List.length_drop]; have := hll.out; have : ¬ k + 2 < s.size := fun h' => hc ⟨h, h'⟩; omega)
              · exact .inl h)
          have hcx : Hid (((s[k].toNat : Int)).toNat.toUInt8 = s[k]) := Lib.hid (by simp)
          have hcb : (s[k].toNat : Int) < 256 := by have := s[k].toNat_lt; omega
          clear hI hdr hgk
          by_cases h37 : s[k] = 37
          · have q1 : ((s[k].toNat : Int) == 37) = true := by rw [h37]; rfl
            have q2 : (s[k].toNat : Int) = 37 := by rw [h37]; rfl
            have u1 : ¬ (k : Int) + 2 < (s.size : Int) := fun h => hc ⟨h37, by omega⟩
            have hcy : Hid (((37 : Int)).toNat.toUInt8 = s[k]) := Lib.hid (by rw [h37]; rfl)
            clear hc h37
            go_wp2_with (first | (at_builtin; refine wpList_app1 wr rfl _ _ rfl (unhide HX).1 rfl rfl (by omega) (by omega) (by have := hol.out; omega) (unhide HX).2.size ?_; intro v1 w3 hO1 hg1 hat1; first | rw [hcx.out] at hO1 | rw [hcy.out] at hO1; have H1 := hide (And.intro hO1 (below_app1 (unhide HX).2 (unhide HX).1 (unhide HX).2.size hg1)); clear hO1 hg1 hat1))
            refine ⟨⟨k + 1, out ++ [s[k]], by omega, by go_num, hI2, Lib.hid (by have := hol.out; simp; omega), (unhide H1).1, (unhide H1).2⟩, by simp [RowKit.intOf]; omega⟩
          · have q1 : ((s[k].toNat : Int) == 37) = false := by
              rw [beq_eq_false_iff_ne]; exact fun e => h37 (UInt8.toNat_inj.1 (by show s[k].toNat = 37; omega))
            have q2 : ¬ (s[k].toNat : Int) = 37 := by rw [beq_eq_false_iff_ne] at q1; exact q1
            clear hc h37
            go_wp2_with (first | (at_builtin; refine wpList_app1 wr rfl _ _ rfl (unhide HX).1 rfl rfl (by omega) hcb (by have := hol.out; omega) (unhide HX).2.size ?_; intro v1 w3 hO1 hg1 hat1; rw [hcx.out] at hO1; have H1 := hide (And.intro hO1 (below_app1 (unhide HX).2 (unhide HX).1 (unhide HX).2.size hg1)); clear hO1 hg1 hat1))
            refine ⟨⟨k + 1, out ++ [s[k]], by omega, by go_num, hI2, Lib.hid (by have := hol.out; simp; omega), (unhide H1).1, (unhide H1).2⟩, by simp [RowKit.intOf]; omega⟩
      · have t1 : ¬ (k : Int) < (s.size : Int) := by omega
        have hP : Hid (unD l = out) := Lib.hid (by rw [← hI.out, List.drop_eq_nil_of_le (by have := hll.out; omega), unD_nil, List.append_nil])
        have hoz : Hid (out.length ≤ 1099511627776) := Lib.hid (by have := hol.out; omega)
        have hro := hres.out
        rw [hP.out] at hro
        obtain ⟨T, hT⟩ : ∃ T : ByteArray, Hid ((⟨out.toArray⟩ : ByteArray) = T) := ⟨_, Lib.hid rfl⟩
        have hTz : T.size ≤ 1099511627776 := by rw [← hT.out]; show out.toArray.size ≤ _; rw [List.size_toArray]; exact hoz.out
        rw [hT.out] at hro
        have hcv := conv_own hO
        rw [hT.out] at hcv
        have hesc := fun W => rescape_any T W hTz
        obtain ⟨E, hE⟩ : ∃ E, Hid (escS T = E) := ⟨_, Lib.hid rfl⟩
        rw [hE.out] at hro hesc
        have HE := hide hesc; have HX := hide hb; have HR := hide hro
        clear hres hI hb hO hesc hro hol
        by_cases hes : E = s
        · have y1 : (E.toList == s.toList) = true := by rw [hes]; exact beq_self_eq_true _
          have y2 : E.toList = s.toList := by rw [hes]
          have hr : Hid (unA s = .tuple #[.string T, .int .i64 0]) := Lib.hid (by rw [unhide HR, if_pos hes])
          clear HR hes
          go_wp2_with fail
          refine ((unhide HE) _).mono ?_
          rintro e2 w3 ⟨rfl, hb3⟩
          have H3 := hide ((unhide HX).trans (hb3.mono (unhide HX).size)); clear hb3 HX HE
          go_wp2_with fail
          go_ret2
          exact ⟨by rw [hr.out]; rfl, unhide H3⟩
        · have y1 : (E.toList == s.toList) = false := toList_ne hes
          have y2 : ¬ E.toList = s.toList := by rw [beq_eq_false_iff_ne] at y1; exact y1
          have hr : Hid (unA s = .tuple #[.string ⟨#[]⟩, .int .i64 44]) := Lib.hid (by rw [unhide HR, if_neg hes])
          clear HR hes
          go_wp2_with fail
          refine ((unhide HE) _).mono ?_
          rintro e2 w3 ⟨rfl, hb3⟩
          have H3 := hide ((unhide HX).trans (hb3.mono (unhide HX).size)); clear hb3 HX HE
          go_wp2_with fail
          go_ret2
          exact ⟨by rw [hr.out]; rfl, unhide H3⟩
end Go.Proofs.YtnkioabdpploeaaGreatDoor

/-
  CONTRACT of text.Escape.
-/
import Derived.Test.YtnkioabdpploeaaGreatDoorRows
import Derived.StillTailTactics
import Derived.Deep.RegionHeld3
import Derived.Deep.RegionLaw
import Derived.Test.YtnkioabdpploeaaGreatDoorGBase
import Derived.Test.YtnkioabdpploeaaGreatDoorGDecs
import Derived.Test.YtnkioabdpploeaaGreatDoorGTabs
import Derived.Test.YtnkioabdpploeaaGreatDoorSPlayP
set_option linter.unusedVariables false
set_option linter.unusedSimpArgs false
namespace Go.Proofs.YtnkioabdpploeaaGreatDoor
open Go.RowKit Go.Lib
set_option maxRecDepth 10000 in
theorem and15 (c : UInt8) : bits .and .u8 (c.toNat : Int) 15 = ((c.toNat % 16 : Nat) : Int) := by
  have h : ∀ n : Fin 256, bits .and .u8 (n.val : Int) 15 = ((n.val % 16 : Nat) : Int) := by decide
  exact h ⟨c.toNat, c.toNat_lt⟩
theorem hex_at (k : Nat) (h : k < 16) : hexS[k]'h = hexB k := by
  have e : ∀ n : Fin 16, hexS[n.val]'n.isLt = hexB n.val := by decide
  exact e ⟨k, h⟩
theorem news3 (w : World) (a b : UInt8) : ∀ j u, (byteCells [37, a, b])[j]? = some u → ((w.alloc (.cells #[.int .u8 37, .int .u8 (a.toNat : Int), .int .u8 (b.toNat : Int)] 5)).drew).cell? ((⟨w.heap.size, 0, none⟩ : Addr).add j) = some u := by
  intro j u h
  have hadd : (⟨w.heap.size, 0, none⟩ : Addr).add j = ⟨w.heap.size, j, none⟩ := by unfold Addr.add; split <;> simp_all
  rw [hadd, ((Blk.new w 5 _).drew).cell j, ← h]
  simp [byteCells]
theorem escF_enters : Enters Tryz.prog 63 := enters_of Tryz.func63 (by kernel_rfl) rfl
/-- What the closure's box holds. -/
def EscAt (base go : Nat) (out : List UInt8) (w : World) : Prop := ∃ v, Blk w go 84 #[v] ∧ OwnB w base v out
set_option maxRecDepth 100000 in
set_option maxHeartbeats 2000000 in
theorem escF_any (c : UInt8) (B0 base go : Nat) (out : List UInt8) (w : World) (h : EscAt base go out w) (hgo : go < base) (hB : B0 ≤ go) (hbase : base ≤ w.heap.size) (hlen : out.length + 3 ≤ 140737488355328) :
    Calls Tryz.prog 63 #[.int .u8 (c.toNat : Int), .pointer (some ⟨go, 0, none⟩)] w fun e w' => e = .returned (.bool true) ∧ EscAt base go (out ++ escB c) w' ∧ Below B0 w w' := by
  obtain ⟨v, hD, hO⟩ := h
  have c0 := hD.cell 0
  have f0 := hD.frozen 0
  simp only [List.getElem?_toArray, List.getElem?_cons_zero] at c0
  have hcl : (c.toNat : Int) < 256 := by have := c.toNat_lt; omega
  have HX := hide (And.intro hD hO); clear hD hO
  by_cases hp : 32 < c.toNat ∧ c.toNat < 127 ∧ c ≠ 37
  · obtain ⟨p1, p2, p3⟩ := hp
    have q1 : (32 : Int) < (c.toNat : Int) := by omega
    have q2 : (c.toNat : Int) < 127 := by omega
    have q3 : ((c.toNat : Int) == 37) = false := by
      rw [beq_eq_false_iff_ne]
      intro e
      exact p3 (UInt8.toNat_inj.1 (by show c.toNat = 37; omega))
    go_enter Tryz.func63, Tryz.ntmps63
    have hne : some go ≠ v.ownBlock := fun e => by have := ((unhide HX).2.lt _ e.symm).1; omega
    go_wp2_with (at_builtin; go_must (refine wpList_app1 w rfl _ _ rfl (unhide HX).2 rfl rfl (by omega) (by omega) (by omega) hbase ?_); intro v1 w1 hO1 hg1 hat1; obtain ⟨g1, cap1, rfl⟩ := hO1.some (by simp); have hD1 := ((unhide HX).1.alloc _).grown hg1 hne; have c1 := hD1.cell 0; have f1 := hD1.frozen 0; simp only [List.getElem?_toArray, List.getElem?_cons_zero] at c1; have H1 := hide (And.intro hO1 (And.intro hg1 hD1)); clear hO1 hg1 hat1 hD1)
    go_ret
    obtain ⟨hO1, hg1, hD1⟩ := unhide H1
    have hcb : escB c = [(c.toNat : Int).toNat.toUInt8] := by
      unfold escB
      rw [if_pos ⟨p1, p2, p3⟩]
      simp
    rw [hcb]
    have hx1 := (hO1.lt g1 rfl).1
    have hne1 : (Value.slice (some ⟨g1, 0, none⟩) (out ++ [(c.toNat : Int).toNat.toUInt8]).length cap1).ownBlock ≠ some go := fun e => by simp [Value.ownBlock] at e; omega
    have h2 := hO1.setCell (p := ⟨go, 0, none⟩) hne1 (.slice (some ⟨g1, 0, none⟩) (out ++ [(c.toNat : Int).toNat.toUInt8]).length cap1)
    rw [List.length_append] at h2
    exact ⟨rfl, ⟨_, hD1.set_ 0 _, h2⟩, (((Below.refl _ _).alloc (by omega) _).grown hg1 (by simp; omega) (fun k hk => by have := ((unhide HX).2.lt _ hk).1; omega)).setCell (p := ⟨go, 0, none⟩) hB _⟩
  · have hcb : escB c = [37, hexB (c.toNat / 16), hexB (c.toNat % 16)] := by unfold escB; rw [if_neg hp]
    have hne : some go ≠ v.ownBlock := fun e => by have := ((unhide HX).2.lt _ e.symm).1; omega
    rw [hcb]
    clear hcb
    have hlt := c.toNat_lt
    have hgl : go < w.heap.size := by omega
    have hgn : ¬ go = w.heap.size := by omega
    have hgm : ¬ w.heap.size = go := by omega
    have e2 : bits .and .u8 (c.toNat : Int) 15 = (c.toNat : Int) % 16 := by rw [and15]; omega
    have b1 : c.toNat / 16 < 16 := by omega
    have b2 : c.toNat % 16 < 16 := by omega
    have b3 : (c.toNat : Int) / 16 < 16 := by omega
    have b4 : (c.toNat : Int) % 16 < 16 := by omega
    have b5 : (0 : Int) ≤ (c.toNat : Int) / 16 := by omega
    have b6 : (0 : Int) ≤ (c.toNat : Int) % 16 := by omega
    have x1 : (⟨#[48, 49, 50, 51, 52, 53, 54, 55, 56, 57, 65, 66, 67, 68, 69, 70]⟩ : ByteArray)[((c.toNat : Int) / 16).toNat]'(by show ((c.toNat : Int) / 16).toNat < 16; omega) = hexB (c.toNat / 16) := (hex_at _ (by omega)).trans (congrArg hexB (by omega))
    have x2 : (⟨#[48, 49, 50, 51, 52, 53, 54, 55, 56, 57, 65, 66, 67, 68, 69, 70]⟩ : ByteArray)[((c.toNat : Int) % 16).toNat]'(by show ((c.toNat : Int) % 16).toNat < 16; omega) = hexB (c.toNat % 16) := (hex_at _ (by omega)).trans (congrArg hexB (by omega))
    by_cases hp1 : 32 < c.toNat
    · have q1 : (32 : Int) < (c.toNat : Int) := by omega
      by_cases hp2 : c.toNat < 127
      · have hp3 : c.toNat = 37 := by
          by_cases h : c = 37
          · rw [h]; rfl
          · exact absurd ⟨hp1, hp2, h⟩ hp
        have q2 : (c.toNat : Int) < 127 := by omega
        have q3 : ((c.toNat : Int) == 37) = true := by rw [beq_iff_eq]; omega
        clear hp hp3
        go_enter Tryz.func63, Tryz.ntmps63
        go_wp2_with (fail)
        go_region_law (refine step_appB rfl (.tmp 18) (.tmp 25) rfl ((unhide HX).2.alloc _).drew rfl ⟨w.heap.size, 0, none⟩ 3 3 [37, hexB (c.toNat / 16), hexB (c.toNat % 16)] rfl rfl (news3 w _ _) hlen (by simp; omega) ?_; intro v1 w1 hO1 hg1 hat1; obtain ⟨g1, cap1, rfl⟩ := hO1.some (by simp); have hD1 := (((unhide HX).1.alloc _).drew).grown hg1 hne; have c1 := hD1.cell 0; have f1 := hD1.frozen 0; simp only [List.getElem?_toArray, List.getElem?_cons_zero] at c1; have H1 := hide (And.intro hO1 (And.intro hg1 hD1)); clear hO1 hg1 hat1 hD1)
        all_goals
          go_wp2_with fail
          go_ret
          obtain ⟨hO1, hg1, hD1⟩ := unhide H1
          have hx1 := (hO1.lt g1 rfl).1
          have hne1 : (Value.slice (some ⟨g1, 0, none⟩) (out ++ [37, hexB (c.toNat / 16), hexB (c.toNat % 16)]).length cap1).ownBlock ≠ some go := fun e => by simp [Value.ownBlock] at e; omega
          have h2 := hO1.setCell (p := ⟨go, 0, none⟩) hne1 (.slice (some ⟨g1, 0, none⟩) (out ++ [37, hexB (c.toNat / 16), hexB (c.toNat % 16)]).length cap1)
          rw [List.length_append] at h2
          exact ⟨rfl, ⟨_, hD1.set_ 0 _, h2⟩, ((((Below.refl _ _).alloc (by omega) _).drew).grown hg1 (by simp; omega) (fun k hk => by have := ((unhide HX).2.lt _ hk).1; omega)).setCell (p := ⟨go, 0, none⟩) hB _⟩
      · have q2 : ¬ (c.toNat : Int) < 127 := by omega
        clear hp
        go_enter Tryz.func63, Tryz.ntmps63
        go_wp2_with (fail)
        go_region_law (refine step_appB rfl (.tmp 18) (.tmp 25) rfl ((unhide HX).2.alloc _).drew rfl ⟨w.heap.size, 0, none⟩ 3 3 [37, hexB (c.toNat / 16), hexB (c.toNat % 16)] rfl rfl (news3 w _ _) hlen (by simp; omega) ?_; intro v1 w1 hO1 hg1 hat1; obtain ⟨g1, cap1, rfl⟩ := hO1.some (by simp); have hD1 := (((unhide HX).1.alloc _).drew).grown hg1 hne; have c1 := hD1.cell 0; have f1 := hD1.frozen 0; simp only [List.getElem?_toArray, List.getElem?_cons_zero] at c1; have H1 := hide (And.intro hO1 (And.intro hg1 hD1)); clear hO1 hg1 hat1 hD1)
        all_goals
          go_wp2_with fail
          go_ret
          obtain ⟨hO1, hg1, hD1⟩ := unhide H1
          have hx1 := (hO1.lt g1 rfl).1
          have hne1 : (Value.slice (some ⟨g1, 0, none⟩) (out ++ [37, hexB (c.toNat / 16), hexB (c.toNat % 16)]).length cap1).ownBlock ≠ some go := fun e => by simp [Value.ownBlock] at e; omega
          have h2 := hO1.setCell (p := ⟨go, 0, none⟩) hne1 (.slice (some ⟨g1, 0, none⟩) (out ++ [37, hexB (c.toNat / 16), hexB (c.toNat % 16)]).length cap1)
          rw [List.length_append] at h2
          exact ⟨rfl, ⟨_, hD1.set_ 0 _, h2⟩, ((((Below.refl _ _).alloc (by omega) _).drew).grown hg1 (by simp; omega) (fun k hk => by have := ((unhide HX).2.lt _ hk).1; omega)).setCell (p := ⟨go, 0, none⟩) hB _⟩
    · have q1 : ¬ (32 : Int) < (c.toNat : Int) := by omega
      clear hp
      go_enter Tryz.func63, Tryz.ntmps63
      go_wp2_with (fail)
      go_region_law (refine step_appB rfl (.tmp 18) (.tmp 25) rfl ((unhide HX).2.alloc _).drew rfl ⟨w.heap.size, 0, none⟩ 3 3 [37, hexB (c.toNat / 16), hexB (c.toNat % 16)] rfl rfl (news3 w _ _) hlen (by simp; omega) ?_; intro v1 w1 hO1 hg1 hat1; obtain ⟨g1, cap1, rfl⟩ := hO1.some (by simp); have hD1 := (((unhide HX).1.alloc _).drew).grown hg1 hne; have c1 := hD1.cell 0; have f1 := hD1.frozen 0; simp only [List.getElem?_toArray, List.getElem?_cons_zero] at c1; have H1 := hide (And.intro hO1 (And.intro hg1 hD1)); clear hO1 hg1 hat1 hD1)
      all_goals
        go_wp2_with fail
        go_ret
        obtain ⟨hO1, hg1, hD1⟩ := unhide H1
        have hx1 := (hO1.lt g1 rfl).1
        have hne1 : (Value.slice (some ⟨g1, 0, none⟩) (out ++ [37, hexB (c.toNat / 16), hexB (c.toNat % 16)]).length cap1).ownBlock ≠ some go := fun e => by simp [Value.ownBlock] at e; omega
        have h2 := hO1.setCell (p := ⟨go, 0, none⟩) hne1 (.slice (some ⟨g1, 0, none⟩) (out ++ [37, hexB (c.toNat / 16), hexB (c.toNat % 16)]).length cap1)
        rw [List.length_append] at h2
        exact ⟨rfl, ⟨_, hD1.set_ 0 _, h2⟩, ((((Below.refl _ _).alloc (by omega) _).drew).grown hg1 (by simp; omega) (fun k hk => by have := ((unhide HX).2.lt _ hk).1; omega)).setCell (p := ⟨go, 0, none⟩) hB _⟩
theorem escEach_any (s : ByteArray) (w : World) (hs : s.size ≤ 1099511627776) :
    Calls Tryz.prog 62 #[.string s, .func (.func 63) #[] #[.pointer (some ⟨w.heap.size, 0, none⟩)]] (w.alloc (.cells #[.slice none 0 0] 84)) fun e w' => ∃ b, e = .returned (.bool b) ∧ Below w.heap.size w w' ∧ EscAt (w.heap.size + 1) w.heap.size (s.data.toList.flatMap escB) w' := by
  have hll : s.data.toList.length = s.size := Array.length_toList
  have hO0 : OwnB (w.alloc (.cells #[.slice none 0 0] 84)) (w.heap.size + 1) (.slice none 0 0) [] := OwnB.nil _ _
  refine (each_inv 63 _ s (fun k wi => EscAt (w.heap.size + 1) w.heap.size ((s.data.toList.take k).flatMap escB) wi ∧ Below w.heap.size w wi ∧ w.heap.size + 1 ≤ wi.heap.size) (fun b w' => Below w.heap.size w w' ∧ EscAt (w.heap.size + 1) w.heap.size (s.data.toList.flatMap escB) w') _ (by simp only [maxLen]; omega) escF_enters ⟨⟨_, Blk.new _ _ _, hO0⟩, (Below.refl _ _).alloc (Nat.le_refl _) _, by simp⟩ ?_ ?_).mono ?_
  · rintro k wi hk ⟨h1, h2, h3⟩
    have hkl : k < s.data.toList.length := by omega
    have hnx : (s.data.toList.take (k + 1)).flatMap escB = (s.data.toList.take k).flatMap escB ++ escB s[k] := by
      rw [List.take_succ_eq_append_getElem hkl, List.flatMap_append]
      simp
      rfl
    have hlen := escL_len (s.data.toList.take k)
    rw [List.length_take] at hlen
    refine (escF_any s[k] w.heap.size (w.heap.size + 1) w.heap.size _ wi h1 (Nat.lt_succ_self _) (Nat.le_refl _) h3 (by omega)).mono ?_
    rintro e w' ⟨rfl, hD', hb'⟩
    exact ⟨true, rfl, fun _ => ⟨by rw [hnx]; exact hD', h2.trans hb', Nat.le_trans h3 hb'.size⟩, fun h => by cases h⟩
  · rintro wi ⟨h1, h2, h3⟩
    rw [List.take_of_length_le (by omega)] at h1
    exact ⟨h2, h1⟩
  · rintro e w' ⟨b, rfl, h⟩
    exact ⟨b, rfl, h⟩
set_option maxRecDepth 100000 in
set_option maxHeartbeats 2000000 in
theorem escape_any (s : ByteArray) (w : World) (hs : s.size ≤ 1099511627776) :
    Calls Tryz.prog 41 #[.string s] w fun e w' => e = .returned (.string (escS s)) ∧ Below w.heap.size w w' := by
  have hll : s.data.toList.length = s.size := Array.length_toList
  rcases Nat.eq_zero_or_pos s.size with h0 | h0
  · have hse : s = ⟨#[]⟩ := by apply ByteArray.ext; exact Array.eq_empty_of_size_eq_zero h0
    have h7 : s.toList = [] := by rw [hse]; simp
    have h8 : s.toList.isEmpty = true := by rw [h7]; rfl
    have hr : escS s = ⟨#[37]⟩ := by rw [hse]; rfl
    rw [hr]
    clear hr hse
    go_enter Tryz.func41, Tryz.ntmps41
    go_wp2_with fail
    go_ret
    exact ⟨rfl, Below.refl _ _⟩
  · have h7 : ¬ s.toList = [] := fun hh => by
      have h3 := toList_ne (a := s) (b := ⟨#[]⟩) (fun e => by rw [e] at h0; exact absurd h0 (by decide))
      rw [hh] at h3; simp at h3
    have h8 : s.toList.isEmpty = false := by cases hh : s.toList with | nil => exact absurd hh h7 | cons _ _ => rfl
    go_enter Tryz.func41, Tryz.ntmps41
    go_wp2_with fail
    refine (escEach_any s w hs).mono ?_
    rintro e w1 ⟨b, rfl, hb, v, hD, hO⟩
    have c0 := hD.cell 0
    simp only [List.getElem?_toArray, List.getElem?_cons_zero] at c0
    have hcv := conv_own hO
    have HB := hide hb; clear hb hD hO
    have hr : Hid (escS s = ⟨(s.data.toList.flatMap escB).toArray⟩) := by
      have hne : s.data.toList ≠ [] := fun e => by rw [e] at hll; simp at hll; omega
      show escS s = _
      unfold escS escL
      rw [if_neg hne]
    go_wp2_with fail
    go_ret
    exact ⟨by rw [hr.out]; rfl, unhide HB⟩
end Go.Proofs.YtnkioabdpploeaaGreatDoor

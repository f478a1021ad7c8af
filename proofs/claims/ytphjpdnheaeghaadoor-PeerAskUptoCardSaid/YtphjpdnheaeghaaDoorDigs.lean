/-
  CONTRACT of package text: digits of six bits each, and base64 is read.
-/
import Derived.Test.YtphjpdnheaeghaaDoorRows
import Derived.Test.YtphjpdnheaeghaaDoorWd
import Derived.Test.YtphjpdnheaeghaaDoorDig
import Derived.Test.YtphjpdnheaeghaaDoorDigB
import Derived.Test.YtphjpdnheaeghaaDoorDigD
import Derived.Test.YtphjpdnheaeghaaDoorDigF
import Derived.Test.YtphjpdnheaeghaaDoorUnDec
import Derived.Test.YtphjpdnheaeghaaDoorUnbA
import Derived.StillTailTactics
import Derived.Deep.RegionHeld3
set_option linter.unusedVariables false
set_option linter.unusedSimpArgs false
namespace Go.Proofs.YtphjpdnheaeghaaDoor
open Go.RowKit Go.Lib
def OkD (st : Nat × Nat × List UInt8) : Prop := (st.2.1 = 0 ∨ st.2.1 = 2 ∨ st.2.1 = 4 ∨ st.2.1 = 6) ∧ st.1 < 2 ^ st.2.1
theorem okD_step {st : Nat × Nat × List UInt8} (h : OkD st) (d : Nat) (hd : d < 64) : OkD (digStep st d) ∧ (digStep st d).2.2.length ≤ st.2.2.length + 1 := by
  obtain ⟨a, n, out⟩ := st
  obtain ⟨h1, h2⟩ := h
  simp only at h1 h2
  unfold digStep OkD
  rcases h1 with rfl | rfl | rfl | rfl
  · simp only [Nat.not_lt_zero, Nat.not_le_of_lt (show (0 : Nat) < 2 from by decide), if_false]
    simp at h2
    subst h2
    simp
    exact hd
  · simp [Nat.mod_one]
  · simp
    omega
  · simp
    omega
theorem digStep_any (c : UInt8) (B0 base gt gh gb gn go : Nat) (st : Nat × Nat × List UInt8) (w : World) (hD : DigAt base gt gh gb gn go st w) (hok : OkD st) (hc : tabv c ≠ 0) (hne : DigNe B0 base gt gh gb gn go) (hbase : base ≤ w.heap.size) (hlen : st.2.2.length + 1 ≤ 140737488355328) :
    Calls Tryd.prog 44 #[.int .u8 (c.toNat : Int), .pointer (some ⟨gt, 0, none⟩), .pointer (some ⟨gh, 0, none⟩), .pointer (some ⟨gb, 0, none⟩), .pointer (some ⟨gn, 0, none⟩), .pointer (some ⟨go, 0, none⟩)] w fun e w' => e = .returned (.bool true) ∧ DigAt base gt gh gb gn go (digStep st (tabv c - 1)) w' ∧ Below B0 w w' := by
  obtain ⟨a, n, out⟩ := st
  obtain ⟨h1, h2⟩ := hok
  simp only at h1 h2
  rcases h1 with rfl | rfl | rfl | rfl
  · exact digF_zero c B0 base gt gh gb gn go a out w hD (by simp at h2; omega) hc hne
  · exact digF_two c B0 base gt gh gb gn go a out w hD (by omega) hc hne hbase hlen
  · exact digF_four c B0 base gt gh gb gn go a out w hD (by omega) hc hne hbase hlen
  · exact digF_six c B0 base gt gh gb gn go a out w hD (by omega) hc hne hbase hlen
theorem tab64_size : tab64.size = 256 := by
  rw [← tab64_is]
  exact tabUp_size _ _
/-- What stands while the bytes are gone through. -/
def DigI (B0 base gt gh gb gn go : Nat) (s : ByteArray) (w : World) (k : Nat) (wi : World) : Prop :=
  DigAt base gt gh gb gn go (digRun (0, 0, []) (s.data.toList.take k)) wi ∧ OkD (digRun (0, 0, []) (s.data.toList.take k)) ∧ (digRun (0, 0, []) (s.data.toList.take k)).2.2.length ≤ k ∧ Below B0 w wi ∧ base ≤ wi.heap.size ∧ ∀ j (hj : j < s.size), j < k → tabv s[j] ≠ 0
theorem digEach_any (s : ByteArray) (B0 base gt gh gb gn go : Nat) (w0 w : World) (hs : s.size ≤ 1099511627776) (hne : DigNe B0 base gt gh gb gn go) (hD : DigAt base gt gh gb gn go (0, 0, []) w) (hb : Below B0 w0 w) (hbase : base ≤ w.heap.size) :
    Calls Tryd.prog 33 #[.string s, .func (.func 44) #[] #[.pointer (some ⟨gt, 0, none⟩), .pointer (some ⟨gh, 0, none⟩), .pointer (some ⟨gb, 0, none⟩), .pointer (some ⟨gn, 0, none⟩), .pointer (some ⟨go, 0, none⟩)]] w fun e w' => ∃ b, e = .returned (.bool b) ∧ (b = false → ∃ c ∈ s.data.toList, tabv c = 0) ∧ (b = true → ∀ c ∈ s.data.toList, tabv c ≠ 0) ∧ Below B0 w0 w' ∧ ∃ out, DigAt base gt gh gb gn go out w' ∧ (b = true → out = digRun (0, 0, []) s.data.toList) ∧ out.2.2.length ≤ s.size := by
  have hll : s.data.toList.length = s.size := Array.length_toList
  refine (each_inv 44 _ s (fun k wi => DigI B0 base gt gh gb gn go s w0 k wi) (fun b w' => (b = false → ∃ c ∈ s.data.toList, tabv c = 0) ∧ (b = true → ∀ c ∈ s.data.toList, tabv c ≠ 0) ∧ Below B0 w0 w' ∧ ∃ out, DigAt base gt gh gb gn go out w' ∧ (b = true → out = digRun (0, 0, []) s.data.toList) ∧ out.2.2.length ≤ s.size) w (by simp only [maxLen]; omega) digF_enters ⟨hD, ⟨.inl rfl, Nat.zero_lt_one⟩, Nat.le_refl _, hb, hbase, fun j _ h => by omega⟩ ?_ ?_).mono ?_
  · rintro k wi hk ⟨h1, h2, h3, h4, h5, h6⟩
    have hkl : k < s.data.toList.length := by omega
    have hge : s.data.toList[k] = s[k] := rfl
    have hnx : digRun (0, 0, []) (s.data.toList.take (k + 1)) = digStep (digRun (0, 0, []) (s.data.toList.take k)) (tabv s[k] - 1) := by
      rw [List.take_succ_eq_append_getElem hkl]
      unfold digRun
      rw [List.foldl_append]
      rfl
    by_cases hc : tabv s[k] = 0
    · refine (digF_no s[k] base gt gh gb gn go _ wi h1 hc).mono ?_
      rintro e w' ⟨rfl, rfl⟩
      exact ⟨false, rfl, fun h => (by cases h), fun _ => ⟨fun _ => ⟨s[k], by rw [← hge]; exact List.getElem_mem _, hc⟩, fun h => (by cases h), h4, _, h1, fun h => (by cases h), by omega⟩⟩
    · refine (digStep_any s[k] B0 base gt gh gb gn go _ wi h1 h2 hc hne h5 (by omega)).mono ?_
      rintro e w' ⟨rfl, hD', hb'⟩
      refine ⟨true, rfl, fun _ => ?_, fun h => by cases h⟩
      have hst := okD_step h2 (tabv s[k] - 1) (by have := tabv_le s[k]; omega)
      unfold DigI
      rw [hnx]
      refine ⟨hD', hst.1, by omega, h4.trans hb', Nat.le_trans h5 hb'.size, fun j hj hjk => ?_⟩
      rcases Nat.lt_succ_iff_lt_or_eq.1 hjk with h' | rfl
      · exact h6 j hj h'
      · exact hc
  · rintro wi ⟨h1, h2, h3, h4, h5, h6⟩
    rw [List.take_of_length_le (by omega)] at h1 h3
    refine ⟨fun h => (by cases h), fun _ c hc => ?_, h4, _, h1, fun _ => rfl, h3⟩
    obtain ⟨j, hj, rfl⟩ := List.mem_iff_getElem.1 hc
    exact h6 j (by omega) (by omega)
  · rintro e w' ⟨b, rfl, h⟩
    exact ⟨b, rfl, h⟩
set_option maxRecDepth 100000 in
set_option maxHeartbeats 1000000 in
theorem digits_any (s : ByteArray) (w : World) (hs : s.size ≤ 1099511627776) :
    Calls Tryd.prog 35 #[.string s, .agg tab64, .int .i64 6] w fun e w' => ∃ x b, e = .returned (.tuple #[.string x, .bool b]) ∧ x.size ≤ s.size ∧ (b = false → ∃ c ∈ s.data.toList, tabv c = 0) ∧ (b = true → (∀ c ∈ s.data.toList, tabv c ≠ 0) ∧ x = ⟨(digRun (0, 0, []) s.data.toList).2.2.toArray⟩) ∧ Below w.heap.size w w' := by
  have hsz := tab64_size
  obtain ⟨T, hT⟩ : ∃ T, Hid (tab64 = T) := ⟨_, Lib.hid rfl⟩
  rw [hT.out] at hsz ⊢
  go_enter Tryd.func35, Tryd.ntmps35
  go_wp2_with fail
  rw [← hT.out]
  simp only [Nat.add_assoc, Nat.reduceAdd]
  have hne : DigNe w.heap.size (w.heap.size + 5) w.heap.size (w.heap.size + 3) (w.heap.size + 1) (w.heap.size + 4) (w.heap.size + 2) := by
    unfold DigNe
    omega
  have hb0 : Below w.heap.size w (((((w.alloc (.cells tab64 76)).alloc (.cells #[.int .i64 6] 3)).alloc (.cells #[.slice none 0 0] 38)).alloc (.cells #[.int .i64 0] 3)).alloc (.cells #[.int .i64 0] 3)) :=
    (((((Below.refl _ _).alloc (Nat.le_refl _) _).alloc (by simp) _).alloc (by simp; omega) _).alloc (by simp; omega) _).alloc (by simp; omega) _
  have hD0 : DigAt (w.heap.size + 5) w.heap.size (w.heap.size + 3) (w.heap.size + 1) (w.heap.size + 4) (w.heap.size + 2) (0, 0, []) (((((w.alloc (.cells tab64 76)).alloc (.cells #[.int .i64 6] 3)).alloc (.cells #[.slice none 0 0] 38)).alloc (.cells #[.int .i64 0] 3)).alloc (.cells #[.int .i64 0] 3)) := by
    have d1 := (((((Blk.new w 76 tab64).alloc (.cells #[.int .i64 6] 3)).alloc (.cells #[.slice none 0 0] 38)).alloc (.cells #[.int .i64 0] 3)).alloc (.cells #[.int .i64 0] 3))
    have d3 := ((((Blk.new (w.alloc (.cells tab64 76)) 3 #[.int .i64 6]).alloc (.cells #[.slice none 0 0] 38)).alloc (.cells #[.int .i64 0] 3)).alloc (.cells #[.int .i64 0] 3))
    have d5 := ((Blk.new ((w.alloc (.cells tab64 76)).alloc (.cells #[.int .i64 6] 3)) 38 #[.slice none 0 0]).alloc (.cells #[.int .i64 0] 3)).alloc (.cells #[.int .i64 0] 3)
    have d2 := (Blk.new (((w.alloc (.cells tab64 76)).alloc (.cells #[.int .i64 6] 3)).alloc (.cells #[.slice none 0 0] 38)) 3 #[.int .i64 0]).alloc (.cells #[.int .i64 0] 3)
    have d4 := Blk.new ((((w.alloc (.cells tab64 76)).alloc (.cells #[.int .i64 6] 3)).alloc (.cells #[.slice none 0 0] 38)).alloc (.cells #[.int .i64 0] 3)) 3 #[.int .i64 0]
    simp only [World.size_alloc, Nat.add_assoc, Nat.reduceAdd] at d1 d2 d3 d4 d5
    exact ⟨d1, d2, d3, d4, _, d5, OwnB.nil _ _⟩
  refine (digEach_any s w.heap.size (w.heap.size + 5) w.heap.size (w.heap.size + 3) (w.heap.size + 1) (w.heap.size + 4) (w.heap.size + 2) w _ hs hne hD0 hb0 (by simp)).mono ?_
  rintro e w1 ⟨b, rfl, h1, h2, hb, out, hD, ho, hl⟩
  obtain ⟨d1, d2, d3, d4, v, d5, d6⟩ := hD
  have c5 := d5.cell 0
  simp only [List.getElem?_toArray, List.getElem?_cons_zero] at c5
  have hcv := conv_own d6
  have HY := hide (And.intro h1 (And.intro h2 (And.intro hb (And.intro ho hl)))); clear h1 h2 hb ho hl d1 d2 d3 d4 d5 d6 hD0 hb0 hne
  go_wp2_with fail
  go_ret2
  obtain ⟨h1, h2, hb, ho, hl⟩ := unhide HY
  exact ⟨_, b, rfl, (by show out.2.2.toArray.size ≤ s.size; rw [List.size_toArray]; exact hl), h1, fun h => ⟨h2 h, by rw [ho h]⟩, hb⟩
/-- Up to two = at the end are cut, of a text. -/
def stripI : Nat → List UInt8 → List UInt8
  | 0, l => l
  | k + 1, l => strip1 (stripI k l)
theorem strip1_len (l : List UInt8) : (strip1 l).length ≤ l.length := by
  unfold strip1
  split <;> simp
theorem stripI_len (l : List UInt8) : ∀ k, (stripI k l).length ≤ l.length
  | 0 => Nat.le_refl _
  | k + 1 => Nat.le_trans (strip1_len _) (stripI_len l k)
set_option maxRecDepth 100000 in
set_option maxHeartbeats 1000000 in
theorem unb_any (s : ByteArray) (w : World) (hs : s.size ≤ 1099511627776) :
    Calls Tryd.prog 21 #[.string s] w fun e w' => e = .returned (unbA s) ∧ Below w.heap.size w w' := by
  have hll : s.data.toList.length = s.size := Array.length_toList
  go_enter Tryd.func21, Tryd.ntmps21
  go_wp2_with fail
  go_loopw [4, 8] (fun v i wr => ∃ (k : Nat) (x : ByteArray), i = .int .i64 k ∧ k ≤ 2 ∧ v = .string x ∧ x.size ≤ s.size ∧ Hid (x.data.toList = stripI k s.data.toList) ∧ Hid (w = wr)) (fun _ i _ => 2 - (RowKit.intOf i).toNat)
  case atStart => exact ⟨0, s, rfl, by omega, rfl, Nat.le_refl _, Lib.hid rfl, Lib.hid rfl⟩
  case round =>
    obtain ⟨k, x, rfl, hk, rfl, hxs, hx, hw⟩ := hrel
    obtain rfl := hw.out
    have hxl : x.data.toList.length = x.size := Array.length_toList
    rcases Nat.lt_or_ge k 2 with hlt | hge
    · have hk2 : (k : Int) < 2 := by omega
      rcases Nat.eq_zero_or_pos x.size with h0 | h0
      · have h01 : ¬ (0 : Int) < (x.size : Int) := by omega
        have hnx : Hid (x.data.toList = stripI (k + 1) s.data.toList) := by
          have e : x.data.toList = [] := List.eq_nil_of_length_eq_zero (by omega)
          have h := hx.out
          unfold Hid stripI
          rw [← h, e]; rfl
        go_wp2_with fail
        go_roundw
        case rel => exact ⟨k + 1, x, by go_num, by omega, rfl, hxs, hnx, Lib.hid trivial⟩
        case measure => simp [RowKit.intOf]; omega
      · have h01 : (0 : Int) < (x.size : Int) := by omega
        have hlt1 : x.size - 1 < x.size := by omega
        have hix : (x[x.size - 1]'hlt1).toNat < 256 := x[x.size - 1].toNat_lt
        have hm1 : (x.size : Int) - 1 = ((x.size - 1 : Nat) : Int) := by omega
        have hgl : Hid (x.data.toList.getLast? = some x[x.size - 1]) := by
          rw [Hid, List.getLast?_eq_getElem?, hxl, List.getElem?_eq_getElem (by omega)]
          rfl
        by_cases hc : x[x.size - 1] = 61
        · have hcc : ((x[x.size - 1].toNat : Int) == 61) = true := by rw [hc]; rfl
          have hnx : Hid ((x.extract 0 (x.size - 1)).data.toList = stripI (k + 1) s.data.toList) := by
            have h := hx.out
            unfold Hid stripI
            rw [← h]
            unfold strip1
            rw [hgl.out, hc, if_pos rfl, bytes_extract _ _ _ (by omega), List.drop_zero, Nat.sub_zero, List.dropLast_eq_take, hxl]
          go_wp2_with fail
          go_roundw
          case rel => exact ⟨k + 1, _, by go_num, by omega, rfl, by rw [ByteArray.size_extract, Nat.min_eq_left (by omega)]; omega, hnx, Lib.hid trivial⟩
          case measure => simp [RowKit.intOf]; omega
        · have hcc : ((x[x.size - 1].toNat : Int) == 61) = false := by
            rw [beq_eq_false_iff_ne]
            exact fun e => hc (UInt8.toNat_inj.1 (by rw [show (61 : UInt8).toNat = 61 from rfl]; omega))
          have hnx : Hid (x.data.toList = stripI (k + 1) s.data.toList) := by
            have h := hx.out
            unfold Hid stripI
            rw [← h]
            unfold strip1
            rw [hgl.out, if_neg (by simpa using hc)]
          go_wp2_with fail
          go_roundw
          case rel => exact ⟨k + 1, x, by go_num, by omega, rfl, hxs, hnx, Lib.hid trivial⟩
          case measure => simp [RowKit.intOf]; omega
    · obtain rfl : k = 2 := by omega
      have hst : Hid (x.data.toList = stripL s.data.toList) := hx.out
      have htb := tab64_any w
      have HTB := hide htb; clear htb hx
      obtain ⟨T, hT⟩ : ∃ T, Hid (tab64 = T) := ⟨_, Lib.hid rfl⟩
      have hdg := fun W => digits_any x W (by omega)
      rw [hT.out] at HTB hdg
      have HDG := hide hdg; clear hdg
      go_wp2_with fail
      refine (unhide HTB).mono ?_
      rintro e w1 ⟨rfl, hb1⟩
      go_wp2_with fail
      refine (unhide HDG w1).mono ?_
      rintro e w2 ⟨y, b, rfl, hys, hbf, hbt, hb2⟩
      have hb2' : Below w.heap.size w w2 := hb1.trans (hb2.mono hb1.size)
      have HY := hide (And.intro hbf (And.intro hbt hb2')); clear hbf hbt hb2' hb1 hb2
      have hbd : Hid (b = true → y.data.toList = undigL s.data.toList) := fun h => by
        have h2 := ((unhide HY).2.1 h).2
        rw [h2]
        unfold undigL
        rw [hst.out]
      cases b with
      | false =>
        have hres : Hid (unbA s = .tuple #[.string ⟨#[]⟩, .int .i64 40]) := unbA_none (unb64V_none fun t ht => by
          obtain ⟨c, hc, hc0⟩ := (unhide HY).1 rfl
          rw [hst.out, b64S_list ht, strip_b64] at hc
          exact (bare_valid _ c hc).1 hc0)
        go_wp2_with fail
        go_ret2
        exact ⟨by rw [hres.out]; rfl, (unhide HY).2.2⟩
      | true =>
        have hy : y = ⟨(undigL s.data.toList).toArray⟩ := bs_eq (hbd.out rfl)
        have huv : unb64V s = if b64S y = s then some y else none := by rw [hy]; rfl
        have HUV := Lib.hid huv; clear huv hy
        have hb64 := fun W => b64_any y W (by omega)
        obtain ⟨D, HDe⟩ : ∃ D, Hid (b64S y = D) := ⟨_, Lib.hid rfl⟩
        rw [HDe.out] at HUV hb64
        have HB := hide hb64; clear hb64
        go_wp2_with fail
        refine (unhide HB _).mono ?_
        rintro e w3 ⟨rfl, hb3⟩
        have hb3' : Below w.heap.size w w3 := (unhide HY).2.2.trans (hb3.mono (unhide HY).2.2.size)
        have H3 := hide hb3'; clear hb3 hb3'
        by_cases he : D = s
        · have hr : Hid (unbA s = .tuple #[.string y, .int .i64 0]) := unbA_some (by rw [HUV.out, if_pos he])
          subst he
          go_wp2_with fail
          go_ret2
          exact ⟨by rw [hr.out]; rfl, unhide H3⟩
        · have hr : Hid (unbA s = .tuple #[.string ⟨#[]⟩, .int .i64 40]) := unbA_none (by rw [HUV.out, if_neg he])
          have he' := toList_ne he
          go_wp2_with fail
          go_ret2
          exact ⟨by rw [hr.out]; rfl, unhide H3⟩
end Go.Proofs.YtphjpdnheaeghaaDoor

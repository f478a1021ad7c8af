/-
  CONTRACTS of the law's helpers named and lined: a name, a text that goes, out of any.
-/
import Derived.Test.YtfhaoamlagnpjaaDoorRows
import Derived.Deep.DeepMust
import Derived.Laws.RangeString
import Derived.Test.YtfhaoamlagnpjaaDoorGBase
import Derived.Test.YtfhaoamlagnpjaaDoorGMacs
import Derived.Test.YtfhaoamlagnpjaaDoorGWhl
set_option linter.unusedVariables false
set_option linter.unusedSimpArgs false
namespace Go.Proofs.YtfhaoamlagnpjaaDoor
open Go.RowKit Go.Lib
/-- A byte that may be in a name. -/
def nmB (c : UInt8) : Bool := nameByte c.toNat
def namedL (l : List UInt8) : List UInt8 := (l.filter nmB).take 64
/-- A name out of any text. -/
def namedB (s : ByteArray) : ByteArray := if namedL s.data.toList = [] then ⟨#[110]⟩ else ⟨(namedL s.data.toList).toArray⟩
/-- A byte that may be in a text. -/
def lnB (c : UInt8) : Bool := (c == 10) || (decide (32 ≤ c.toNat) && decide (c.toNat < 127))
def linedL (l : List UInt8) : List UInt8 := (l.filter lnB).take 20000 ++ [10]
def linedB (s : ByteArray) : ByteArray := ⟨(linedL s.data.toList).toArray⟩
theorem gather_step {p : UInt8 → Bool} {l : List UInt8} {k : Nat} (hk : k < l.length) : (l.take (k + 1)).filter p = (l.take k).filter p ++ if p l[k] = true then [l[k]] else [] := by
  rw [List.take_succ_eq_append_getElem hk, List.filter_append]
  congr 1
  rw [List.filter_cons]
  split <;> simp_all
theorem gather_end {p : UInt8 → Bool} {l : List UInt8} {k n : Nat} (hn : ((l.take k).filter p).length ≤ n) (h : l.length ≤ k ∨ n ≤ ((l.take k).filter p).length) : (l.filter p).take n = (l.take k).filter p := by
  rcases h with h | h
  · rw [List.take_of_length_le h] at hn ⊢
    exact List.take_of_length_le hn
  · have e : l.filter p = (l.take k).filter p ++ (l.drop k).filter p := by rw [← List.filter_append, List.take_append_drop]
    rw [e, List.take_append_of_le_length h]
    exact List.take_of_length_le hn
theorem namedB_ok (s : ByteArray) : nameOk (namedB s) = true := by
  have hall : ∀ c ∈ namedL s.data.toList, nameByte c.toNat = true := fun c hc => by
    have := List.mem_of_mem_take hc
    exact (List.mem_filter.1 this).2
  unfold namedB
  split
  · decide
  · rename_i h
    unfold nameOk nameAll
    have hz : (⟨(namedL s.data.toList).toArray⟩ : ByteArray).size = (namedL s.data.toList).length := by show (namedL s.data.toList).toArray.size = _; rw [List.size_toArray]
    have h64 : (namedL s.data.toList).length ≤ 64 := by unfold namedL; rw [List.length_take]; omega
    have hpos := List.length_pos_iff.2 h
    rw [hz, decide_eq_true (by omega), decide_eq_true (by omega)]
    simp only [Bool.and_self, Bool.true_and, List.all_eq_true]
    exact hall
theorem app1_ret {w w1 w' : World} {base : Nat} {v v' : Value} {bs bs' : List UInt8} {o : Obj} (hO : OwnB w base v bs) (hb : Below base w1 w) (hO' : OwnB w' base v' bs') (hg : (w.alloc o).grownBy w' v.ownBlock) (hz : base ≤ w.heap.size) : Below base w1 w' :=
  (hb.alloc hz _).grown hg (by simp; omega) (fun k hk => (hO.lt k hk).1)
set_option maxRecDepth 100000 in
set_option maxHeartbeats 2000000 in
theorem named_any (s : ByteArray) (w : World) (hs : s.size ≤ 1099511627776) :
    Calls Tryd.prog 37 #[.string s] w fun e w' => e = .returned (.string (namedB s)) ∧ Below w.heap.size w w' := by
  have hll : s.data.toList.length = s.size := Array.length_toList
  go_enter Tryd.func37, Tryd.ntmps37
  go_wp2_with fail
  go_loopw [3, 4] (fun v i wr => ∃ (k : Nat) (bs : List UInt8), i = .int .i64 k ∧ k ≤ s.size ∧ Hid (bs = (s.data.toList.take k).filter nmB) ∧ bs.length ≤ 64 ∧ OwnB wr w.heap.size v bs ∧ Below w.heap.size w wr) (fun _ i _ => s.size - (RowKit.intOf i).toNat)
  case atStart => exact ⟨0, [], rfl, by omega, Lib.hid (by simp), by simp, OwnB.nil _ _, Below.refl _ _⟩
  case round =>
    obtain ⟨k, bs, rfl, hk, hbs, h64, hO, hb⟩ := hrel
    obtain ⟨A, c, rfl⟩ : ∃ A c, u3 = .slice A bs.length c := by
      rcases hO.form with ⟨h1, h2⟩ | ⟨g, cap, h1, -⟩
      · exact ⟨none, 0, by rw [h1, h2]; rfl⟩
      · exact ⟨_, _, h1⟩
    have HX := hide (And.intro hO hb); clear hO hb
    by_cases hgo : k < s.size ∧ bs.length < 64
    · obtain ⟨hlt, hl64⟩ := hgo
      have t1 : (k : Int) < (s.size : Int) := by omega
      have t2 : (bs.length : Int) < 64 := by omega
      have hst := gather_step (p := nmB) (l := s.data.toList) (k := k) (by omega)
      have hge : s.data.toList[k]'(by omega) = s[k] := rfl
      rw [hge, ← hbs.out] at hst
      have hc256 := s[k].toNat_lt
      by_cases hp : nmB s[k] = true
      · rw [if_pos hp] at hst
        have hpb := hp
        unfold nmB nameByte at hpb
        simp only [Bool.and_eq_true, decide_eq_true_eq] at hpb
        have p1 : (32 : Int) < (s[k].toNat : Int) := hpb.1.1
        have p2 : (s[k].toNat : Int) < 127 := hpb.1.2
        have p3 : ((s[k].toNat : Int) != 43) = true := hpb.2
        have p4 : ((s[k].toNat : Int) == 43) = false := by simpa using p3
        have HST := Lib.hid hst
        clear hst hp hpb hge
        have HN := hide (And.intro h64 hl64); clear h64 hl64
        go_wp2_with (at_builtin; go_must (refine wpList_app1 wr rfl _ _ rfl (unhide HX).1 rfl rfl (by omega) (by omega) (by have := (unhide HN).1; omega) (unhide HX).2.size ?_); intro v' w' hO' hg hat; have HO' := hide (And.intro hO' hg); clear hO' hg hat)
        go_roundw
        case rel =>
          refine ⟨k + 1, bs ++ [s[k]], by go_num, by omega, Lib.hid HST.out.symm, by have := (unhide HN).2; simp; omega, ?_, app1_ret (unhide HX).1 (unhide HX).2 (unhide HO').1 (unhide HO').2 (unhide HX).2.size⟩
          have h := (unhide HO').1
          simpa using h
        case measure => simp [RowKit.intOf]; omega
      · rw [if_neg hp, List.append_nil] at hst
        have hpb : nameByte s[k].toNat = false := by simpa [nmB] using hp
        unfold nameByte at hpb
        have HST := Lib.hid hst
        clear hst hp hge
        have hfin : (∃ kk : Nat, ∃ bs' : List UInt8, (Value.int .i64 ((k : Int) + 1)) = .int .i64 kk ∧ kk ≤ s.size ∧ Hid (bs' = (s.data.toList.take kk).filter nmB) ∧ bs'.length ≤ 64 ∧ OwnB wr w.heap.size (.slice A bs.length c) bs' ∧ Below w.heap.size w wr) :=
          ⟨k + 1, bs, by go_num, by omega, Lib.hid HST.out.symm, h64, (unhide HX).1, (unhide HX).2⟩
        have HF := hide hfin; clear hfin HST hbs
        by_cases q1 : (32 : Int) < (s[k].toNat : Int)
        · by_cases q2 : (s[k].toNat : Int) < 127
          · have q3 : ((s[k].toNat : Int) != 43) = false := by
              rw [decide_eq_true q1, decide_eq_true q2] at hpb; simpa using hpb
            have q4 : ((s[k].toNat : Int) == 43) = true := by simpa using q3
            clear hpb
            go_wp2_with fail
            go_roundw
            case rel => exact unhide HF
            case measure => simp [RowKit.intOf]; omega
          · clear hpb
            go_wp2_with fail
            go_roundw
            case rel => exact unhide HF
            case measure => simp [RowKit.intOf]; omega
        · clear hpb
          go_wp2_with fail
          go_roundw
          case rel => exact unhide HF
          case measure => simp [RowKit.intOf]; omega
    · have hend := gather_end (p := nmB) (l := s.data.toList) (k := k) (n := 64) (by rw [← hbs.out]; exact h64) (by rw [← hbs.out]; omega)
      rw [← hbs.out] at hend
      have hcv := conv_own (unhide HX).1
      have HE := Lib.hid (show namedL s.data.toList = bs from hend)
      clear hend
      by_cases h0 : bs = []
      · have hres : Hid (namedB s = ⟨#[110]⟩) := by unfold namedB; rw [Hid, HE.out, if_pos h0]
        have h00 : ((bs.length : Int) == 0) = true := by rw [h0]; rfl
        clear hbs h0 HE hcv
        by_cases hlt : k < s.size
        · have t1 : (k : Int) < (s.size : Int) := by omega
          have t2 : ¬ (bs.length : Int) < 64 := by omega
          go_wp2_with fail
          go_ret
          exact ⟨by rw [hres.out]; rfl, (unhide HX).2⟩
        · have t1 : ¬ (k : Int) < (s.size : Int) := by omega
          go_wp2_with fail
          go_ret
          exact ⟨by rw [hres.out]; rfl, (unhide HX).2⟩
      · have hres : Hid (namedB s = ⟨bs.toArray⟩) := by unfold namedB; rw [Hid, HE.out, if_neg h0]
        have h01 := List.length_pos_iff.2 h0
        have h00 : ((bs.length : Int) == 0) = false := by rw [beq_eq_false_iff_ne]; omega
        clear hbs h0 HE
        by_cases hlt : k < s.size
        · have t1 : (k : Int) < (s.size : Int) := by omega
          have t2 : ¬ (bs.length : Int) < 64 := by omega
          go_wp2_with fail
          go_ret
          exact ⟨by rw [hres.out]; rfl, (unhide HX).2⟩
        · have t1 : ¬ (k : Int) < (s.size : Int) := by omega
          go_wp2_with fail
          go_ret
          exact ⟨by rw [hres.out]; rfl, (unhide HX).2⟩
set_option maxRecDepth 100000 in
set_option maxHeartbeats 2000000 in
theorem lined_any (s : ByteArray) (w : World) (hs : s.size ≤ 1099511627776) :
    Calls Tryd.prog 31 #[.string s] w fun e w' => e = .returned (.string (linedB s)) ∧ Below w.heap.size w w' := by
  have hll : s.data.toList.length = s.size := Array.length_toList
  go_enter Tryd.func31, Tryd.ntmps31
  go_wp2_with fail
  go_loopw [3, 4] (fun v i wr => ∃ (k : Nat) (bs : List UInt8), i = .int .i64 k ∧ k ≤ s.size ∧ Hid (bs = (s.data.toList.take k).filter lnB) ∧ bs.length ≤ 20000 ∧ OwnB wr w.heap.size v bs ∧ Below w.heap.size w wr) (fun _ i _ => s.size - (RowKit.intOf i).toNat)
  case atStart => exact ⟨0, [], rfl, by omega, Lib.hid (by simp), by simp, OwnB.nil _ _, Below.refl _ _⟩
  case round =>
    obtain ⟨k, bs, rfl, hk, hbs, h64, hO, hb⟩ := hrel
    obtain ⟨A, c, rfl⟩ : ∃ A c, u3 = .slice A bs.length c := by
      rcases hO.form with ⟨h1, h2⟩ | ⟨g, cap, h1, -⟩
      · exact ⟨none, 0, by rw [h1, h2]; rfl⟩
      · exact ⟨_, _, h1⟩
    have HX := hide (And.intro hO hb); clear hO hb
    by_cases hgo : k < s.size ∧ bs.length < 20000
    · obtain ⟨hlt, hl64⟩ := hgo
      have t1 : (k : Int) < (s.size : Int) := by omega
      have t2 : (bs.length : Int) < 20000 := by omega
      have hst := gather_step (p := lnB) (l := s.data.toList) (k := k) (by omega)
      have hge : s.data.toList[k]'(by omega) = s[k] := rfl
      rw [hge, ← hbs.out] at hst
      have hc256 := s[k].toNat_lt
      by_cases hp : lnB s[k] = true
      · rw [if_pos hp] at hst
        have hpb := hp
        unfold lnB at hpb
        have HST := Lib.hid hst
        have hrel2 : ∀ v' w', OwnB w' w.heap.size v' (bs ++ [s[k].toNat.toUInt8]) → (wr.alloc (.cells #[.int .u8 (s[k].toNat : Int)] 5)).grownBy w' (Value.slice A bs.length c).ownBlock → (∃ (kk : Nat) (bs' : List UInt8), (Value.int .i64 ((k : Int) + 1)) = .int .i64 kk ∧ kk ≤ s.size ∧ Hid (bs' = (s.data.toList.take kk).filter lnB) ∧ bs'.length ≤ 20000 ∧ OwnB w' w.heap.size v' bs' ∧ Below w.heap.size w w') := fun v' w' h1 h2 =>
          ⟨k + 1, bs ++ [s[k]], by go_num, by omega, Lib.hid HST.out.symm, by simp; omega, by simpa using h1, app1_ret (unhide HX).1 (unhide HX).2 h1 h2 (unhide HX).2.size⟩
        have HR2 := hide hrel2; clear hrel2
        clear hst hp hge HST
        have HN := hide (And.intro h64 hl64); clear h64 hl64 hbs
        by_cases q0 : s[k] = 10
        · have r0 : ((s[k].toNat : Int) == 10) = true := by rw [q0]; rfl
          clear hpb q0
          go_wp2_with (at_builtin; go_must (refine wpList_app1 wr rfl _ _ rfl (unhide HX).1 rfl rfl (by omega) (by omega) (by have := (unhide HN).1; omega) (unhide HX).2.size ?_); intro v' w' hO' hg hat; have HO' := hide (And.intro hO' hg); clear hO' hg hat)
          go_roundw
          case rel =>
            have h := (unhide HO').1
            exact unhide HR2 _ _ (by simpa using h) (unhide HO').2
          case measure => simp [RowKit.intOf]; omega
        · have q0' : (s[k] == 10) = false := by simpa using q0
          rw [q0', Bool.false_or, Bool.and_eq_true, decide_eq_true_eq, decide_eq_true_eq] at hpb
          have r0 : ((s[k].toNat : Int) == 10) = false := by
            rw [beq_eq_false_iff_ne]; intro e
            exact q0 (UInt8.toNat_inj.1 (by have : s[k].toNat = 10 := by omega
                                            rw [this]; rfl))
          have p1 : (32 : Int) ≤ (s[k].toNat : Int) := by omega
          have p2 : (s[k].toNat : Int) < 127 := by omega
          clear hpb q0 q0'
          go_wp2_with (at_builtin; go_must (refine wpList_app1 wr rfl _ _ rfl (unhide HX).1 rfl rfl (by omega) (by omega) (by have := (unhide HN).1; omega) (unhide HX).2.size ?_); intro v' w' hO' hg hat; have HO' := hide (And.intro hO' hg); clear hO' hg hat)
          go_roundw
          case rel =>
            have h := (unhide HO').1
            exact unhide HR2 _ _ (by simpa using h) (unhide HO').2
          case measure => simp [RowKit.intOf]; omega
      · rw [if_neg hp, List.append_nil] at hst
        have hpb : lnB s[k] = false := by simpa using hp
        unfold lnB at hpb
        have HST := Lib.hid hst
        clear hst hp hge
        have hfin : (∃ kk : Nat, ∃ bs' : List UInt8, (Value.int .i64 ((k : Int) + 1)) = .int .i64 kk ∧ kk ≤ s.size ∧ Hid (bs' = (s.data.toList.take kk).filter lnB) ∧ bs'.length ≤ 20000 ∧ OwnB wr w.heap.size (.slice A bs.length c) bs' ∧ Below w.heap.size w wr) :=
          ⟨k + 1, bs, by go_num, by omega, Lib.hid HST.out.symm, h64, (unhide HX).1, (unhide HX).2⟩
        have HF := hide hfin; clear hfin HST hbs
        rw [Bool.or_eq_false_iff] at hpb
        have r0 : ((s[k].toNat : Int) == 10) = false := by
          rw [beq_eq_false_iff_ne]; intro e
          have h9 := hpb.1
          rw [beq_eq_false_iff_ne] at h9
          exact h9 (UInt8.toNat_inj.1 (by have : s[k].toNat = 10 := by omega
                                          rw [this]; rfl))
        have hpb2 := hpb.2
        rw [Bool.and_eq_false_iff, decide_eq_false_iff_not, decide_eq_false_iff_not] at hpb2
        clear hpb
        by_cases q1 : (32 : Int) ≤ (s[k].toNat : Int)
        · have q2 : ¬ (s[k].toNat : Int) < 127 := by omega
          clear hpb2
          go_wp2_with fail
          go_roundw
          case rel => exact unhide HF
          case measure => simp [RowKit.intOf]; omega
        · clear hpb2
          go_wp2_with fail
          go_roundw
          case rel => exact unhide HF
          case measure => simp [RowKit.intOf]; omega
    · have hend := gather_end (p := lnB) (l := s.data.toList) (k := k) (n := 20000) (by rw [← hbs.out]; exact h64) (by rw [← hbs.out]; omega)
      rw [← hbs.out] at hend
      have hres : Hid (linedB s = ⟨(bs ++ [10]).toArray⟩) := by unfold linedB linedL; rw [Hid, hend]
      clear hend hbs
      have hbl : bs.length + 1 ≤ 140737488355328 := by omega
      by_cases hlt : k < s.size
      · have t1 : (k : Int) < (s.size : Int) := by omega
        have t2 : ¬ (bs.length : Int) < 20000 := by omega
        go_wp2_with (at_builtin; go_must (refine wpList_app1 wr rfl _ _ rfl (unhide HX).1 rfl rfl (by omega) (by omega) hbl (unhide HX).2.size ?_); intro v' w' hO' hg hat; have hcv := conv_own hO'; have HO' := hide (And.intro hO' hg); clear hO' hg hat)
        go_ret
        exact ⟨by rw [hres.out]; rfl, app1_ret (unhide HX).1 (unhide HX).2 (unhide HO').1 (unhide HO').2 (unhide HX).2.size⟩
      · have t1 : ¬ (k : Int) < (s.size : Int) := by omega
        go_wp2_with (at_builtin; go_must (refine wpList_app1 wr rfl _ _ rfl (unhide HX).1 rfl rfl (by omega) (by omega) hbl (unhide HX).2.size ?_); intro v' w' hO' hg hat; have hcv := conv_own hO'; have HO' := hide (And.intro hO' hg); clear hO' hg hat)
        go_ret
        exact ⟨by rw [hres.out]; rfl, app1_ret (unhide HX).1 (unhide HX).2 (unhide HO').1 (unhide HO').2 (unhide HX).2.size⟩
theorem wholeP_ascii (s : ByteArray) (h : ∀ c ∈ s.data.toList, c = 10 ∨ (32 ≤ c.toNat ∧ c.toNat < 127)) : ∀ (n pos : Nat), s.size - pos ≤ n → wholeP true s pos = true := by
  intro n
  induction n with
  | zero => intro pos hn; exact wholeP_end (by omega)
  | succ n ih =>
    intro pos hn
    by_cases hp : pos < s.size
    · have hm : s[pos] ∈ s.data.toList := by
        have e : s[pos] = s.data.toList[pos]'(by rw [Array.length_toList]; exact hp) := rfl
        rw [e]; exact List.getElem_mem _
      have hc := h _ hm
      have h128 : s[pos].toNat < 128 := by
        rcases hc with e | ⟨_, e⟩
        · rw [e]; decide
        · omega
      have hok : okB true s[pos].toNat = true := by
        rcases hc with e | ⟨e, _⟩
        · rw [e]; decide
        · exact okB_high _ e
      have hd := decode_ascii s pos hp h128
      rw [wholeP, dif_pos hp, hd]
      simp only
      rw [if_neg (by omega), hok, if_neg (by decide)]
      exact ih _ (by omega)
    · exact wholeP_end hp
theorem linedB_goes (s : ByteArray) : goesV (linedB s) = true := by
  have hl : (linedB s).data.toList = linedL s.data.toList := by unfold linedB; simp
  unfold goesV
  rw [hl]
  have h1 : (linedL s.data.toList).getLast? = some 10 := by unfold linedL; exact List.getLast?_concat
  rw [h1, decide_eq_true rfl, Bool.true_and]
  refine wholeP_ascii _ ?_ _ _ (Nat.le_refl _)
  intro c hc
  rw [hl] at hc
  unfold linedL at hc
  rcases List.mem_append.1 hc with hc | hc
  · have h2 := (List.mem_filter.1 (List.mem_of_mem_take hc)).2
    unfold lnB at h2
    simp only [Bool.or_eq_true, Bool.and_eq_true, decide_eq_true_eq, beq_iff_eq] at h2
    exact h2
  · simp at hc; exact .inl hc
theorem linedB_size (s : ByteArray) : (linedB s).size ≤ 20001 := by
  show (linedL s.data.toList).toArray.size ≤ _
  rw [List.size_toArray]
  unfold linedL
  rw [List.length_append, List.length_take]
  simp; omega
end Go.Proofs.YtfhaoamlagnpjaaDoor

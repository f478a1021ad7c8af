/-
  CONTRACT of text.Words.
-/
import Derived.Test.YtnkioabdpploeaaGreatDoorRows
import Derived.Test.YtnkioabdpploeaaGreatDoorGBase
import Derived.Test.YtnkioabdpploeaaGreatDoorGLns
import Derived.Test.YtnkioabdpploeaaGreatDoorSUnesc
set_option linter.unusedVariables false
set_option linter.unusedSimpArgs false
namespace Go.Proofs.YtnkioabdpploeaaGreatDoor
open Go.RowKit Go.Lib
/-- Words read back, all or none. -/
def wlO : List ByteArray → Option (List ByteArray)
  | [] => some []
  | x :: r => match unE x with
    | none => none
    | some t => (wlO r).map (t :: ·)
def wdsL (s : ByteArray) : Option (List ByteArray) := if s = ⟨#[]⟩ then some [] else wlO ((splL 32 s.data.toList).map bsL)
theorem wlO_len : ∀ {l ts : List ByteArray}, wlO l = some ts → ts.length = l.length
  | [], ts, h => by simp [wlO] at h; subst h; rfl
  | x :: r, ts, h => by
    unfold wlO at h
    split at h
    · cases h
    · obtain ⟨u, hu, rfl⟩ := Option.map_eq_some_iff.1 h
      have := wlO_len hu
      simp [this]
def WdsR (w' : World) (base : Nat) (s : ByteArray) (e : Ending) : Prop :=
  (∃ ts v, wdsL s = some ts ∧ e = .returned (.tuple #[v, .int .i64 0]) ∧ OwnT w' base v ts) ∨ (wdsL s = none ∧ e = .returned (.tuple #[.slice none 0 0, .int .i64 44]))
theorem strs_at {w : World} {A : Option Addr} {m c : Nat} {es : List ByteArray} (h : StrsAt w (.slice A m c) es) (j : Nat) (hj : j < es.length) : ∃ a, A = some a ∧ w.cell? (a.add j) = some (.string es[j]) := by
  obtain ⟨A', c', hv, hc⟩ := h
  injection hv with e1 e2 e3
  subst e1
  exact hc j hj
theorem ownT_mono {w : World} {base base' : Nat} {v : Value} {es : List ByteArray} (h : OwnT w base v es) (hb : base' ≤ base) : OwnT w base' v es := by
  refine ⟨h.1, ?_⟩
  rcases h.2 with h2 | ⟨g, cap, cur, h1, h2, h3⟩
  · exact .inl h2
  · exact .inr ⟨g, cap, cur, h1, by omega, h3⟩
theorem ownT_strs {w : World} {base : Nat} {v : Value} {l : List ByteArray} (h : OwnT w base v l) : StrsAt w v l := by
  rcases id h.2 with ⟨rfl, hn⟩ | ⟨g, cap, cur, rfl, -, -, -⟩
  · obtain rfl := List.eq_nil_of_length_eq_zero hn
    exact ⟨none, 0, rfl, fun j hj => absurd hj (by simp)⟩
  · refine ⟨_, cap, rfl, fun j hj => ⟨_, rfl, ?_⟩⟩
    have hadd : (⟨g, 0, none⟩ : Addr).add j = ⟨g, j, none⟩ := by unfold Addr.add; split <;> simp_all
    rw [hadd, World.ownsRow.cellAt h j (by omega)]
    simp [hj]
theorem unA_some {x t : ByteArray} (h : unE x = some t) : unA x = .tuple #[.string t, .int .i64 0] := by unfold unA; rw [h]
theorem unA_none {x : ByteArray} (h : unE x = none) : unA x = .tuple #[.string ⟨#[]⟩, .int .i64 44] := by unfold unA; rw [h]
theorem appT_below {B : Nat} {w W W' : World} {v : Value} {es : List ByteArray} {o : Obj} (hb : Below B w W) (hO : OwnT W B v es) (hW : B ≤ W.heap.size) (hg : (W.alloc o).grownBy W' v.ownBlock) : Below B w W' :=
  (hb.alloc hW o).grown hg (by simp; omega) (fun k hk => (World.ownsRow.lt hO k hk).1)
set_option maxRecDepth 100000 in
set_option maxHeartbeats 4000000 in
theorem twords_any (s : ByteArray) (w : World) (hs : s.size ≤ 1099511627776) :
    Calls Tryz.prog 23 #[.string s] w fun e w' => WdsR w' w.heap.size s e ∧ Below w.heap.size w w' := by
  by_cases h0 : s = ⟨#[]⟩
  · have hr : wdsL s = some [] := by unfold wdsL; rw [if_pos h0]
    subst h0
    go_enter Tryz.func23, Tryz.ntmps23
    go_wp2_with fail
    go_ret2
    exact ⟨.inl ⟨[], _, hr, rfl, OwnT.nil _ _⟩, Below.refl _ _⟩
  · have hp2 : (s.toList == []) = false := by
      have h := toList_ne (b := ⟨#[]⟩) h0
      rwa [show (⟨#[]⟩ : ByteArray).toList = [] from by kernel_rfl] at h
    have hp1 : ¬ s.toList = [] := by rw [beq_eq_false_iff_ne] at hp2; exact hp2
    have hp3 : s.toList.isEmpty = false := by cases hh : s.toList with | nil => exact absurd hh hp1 | cons _ _ => rfl
    have hll : s.data.toList.length = s.size := Array.length_toList
    have hpt := parted_any s 32 w hs
    have hsl := splL_length 32 s.data.toList
    rw [hll] at hsl
    have hmem : Hid (∀ x ∈ (splL 32 s.data.toList).map bsL, x.size ≤ 1099511627776) := Lib.hid (fun x hx => by
      obtain ⟨y, hy, rfl⟩ := List.mem_map.1 hx
      have := splL_mem 32 _ y hy
      show y.toArray.size ≤ _
      rw [List.size_toArray]; omega)
    have hres : Hid (wdsL s = wlO ((splL 32 s.data.toList).map bsL)) := Lib.hid (by unfold wdsL; rw [if_neg h0])
    have hpl : ((splL 32 s.data.toList).map bsL).length ≤ s.size + 1 := by rw [List.length_map]; exact hsl
    generalize (splL 32 s.data.toList).map bsL = ps at *
    have HP := hide hpt; clear hpt h0 hll hsl
    go_enter Tryz.func23, Tryz.ntmps23
    go_wp2_with fail
    refine (unhide HP).mono ?_
    rintro e1 w1 ⟨vp, rfl, hOp, hb1⟩
    have hSp := ownT_strs hOp
    obtain ⟨A, c, rfl, -⟩ := id hSp
    have H1 := hide (And.intro hSp hb1); clear hSp hOp hb1 HP
    go_wp2_with fail
    go_loopw [4, 6, 7, 8, 14] (fun o _ _ _ i W => ∃ (j : Nat) (acc : List ByteArray), j ≤ ps.length ∧ i = .int .i64 (j : Int) ∧ Hid ((wlO (ps.drop j)).map (acc ++ ·) = wlO ps) ∧ Hid (acc.length = j) ∧ OwnT W w1.heap.size o acc ∧ Below w1.heap.size w1 W) (fun _ _ _ _ i _ => ps.length - (RowKit.intOf i).toNat)
    case atStart => exact ⟨0, [], by omega, rfl, Lib.hid (by simp), Lib.hid rfl, OwnT.nil _ _, Below.refl _ _⟩
    case round =>
      obtain ⟨j, acc, hj, rfl, hI, hal, hO, hb⟩ := hrel
      rcases Nat.lt_or_ge j ps.length with hlt | hge
      · have t0 : (0 : Int) ≤ (j : Int) := by omega
        have t1 : (j : Int) < (ps.length : Int) := by omega
        have qb : j ≤ 1099511627777 := by omega
        obtain ⟨a, rfl, hca⟩ := strs_at ((unhide H1).1.below hb) j hlt
        have hun := unesc_any ps[j] wr (hmem.out _ (List.getElem_mem hlt))
        have hI2 := hI.out
        rw [List.drop_eq_getElem_cons hlt, wlO] at hI2
        generalize ps[j] = x at *
        have HX := hide (And.intro hO hb); clear hO hb hI
        cases hE : unE x with
        | none =>
          rw [unA_none hE] at hun
          rw [hE] at hI2
          have hr : Hid (wdsL s = none) := Lib.hid (by rw [hres.out, ← hI2]; rfl)
          have HU := hide hun; clear hun hI2 hE
          go_wp2_with fail
          refine (unhide HU).mono ?_
          rintro e2 w2 ⟨rfl, hb2⟩
          have H3 := hide ((unhide H1).2.trans (((unhide HX).2.trans (hb2.mono (unhide HX).2.size)).mono (unhide H1).2.size)); clear hb2 HU HX
          go_wp2_with fail
          go_ret2
          exact ⟨.inr ⟨hr.out, rfl⟩, unhide H3⟩
        | some t =>
          rw [unA_some hE] at hun
          rw [hE] at hI2
          have hI3 : Hid ((wlO (ps.drop (j + 1))).map ((acc ++ [t]) ++ ·) = wlO ps) := Lib.hid (by
            rw [← hI2]; simp only [Option.map_map]; congr 1; funext y; simp)
          have HU := hide hun; clear hun hI2 hE
          go_wp2_with fail
          refine (unhide HU).mono ?_
          rintro e2 w2 ⟨rfl, hb2⟩
          have hO2 := (unhide HX).1.below hb2
          have hbb := (unhide HX).2.trans (hb2.mono (unhide HX).2.size)
          have H3 := hide (And.intro hO2 hbb); clear hb2 HU HX hO2 hbb
          go_wp2_with (first | (at_builtin; refine wpList_appT1 w2 rfl _ _ rfl (unhide H3).1 rfl rfl (by have := hal.out; omega) (unhide H3).2.size ?_; intro v1 w3 hO1 hg1 hat1; have H4 := hide (And.intro hO1 (appT_below (unhide H3).2 (unhide H3).1 (unhide H3).2.size hg1)); clear hO1 hg1 hat1))
          refine ⟨⟨j + 1, acc ++ [t], by omega, by go_num, hI3, Lib.hid (by have := hal.out; simp; omega), (unhide H4).1, (unhide H4).2⟩, by simp [RowKit.intOf]; omega⟩
      · have t1 : ¬ (j : Int) < (ps.length : Int) := by omega
        have hr : Hid (wdsL s = some acc) := Lib.hid (by rw [hres.out, ← hI.out, List.drop_eq_nil_of_le hge]; simp [wlO])
        have HX := hide (And.intro (ownT_mono hO (unhide H1).2.size) ((unhide H1).2.trans (hb.mono (unhide H1).2.size)))
        obtain ⟨Ao, co, rfl, -⟩ := id (ownT_strs hO)
        clear hO hb hI
        go_wp2_with fail
        go_ret2
        exact ⟨.inl ⟨acc, _, hr.out, rfl, (unhide HX).1⟩, (unhide HX).2⟩
end Go.Proofs.YtnkioabdpploeaaGreatDoor

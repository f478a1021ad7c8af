/-
  CONTRACTS of the document's kindOf, numbersOf, lines.
-/
import Derived.Test.YtaomecinemmdgaaRows
import Derived.Test.YtaomecinemmdgaaGBase
import Derived.Test.YtaomecinemmdgaaGLns
import Derived.Test.YtaomecinemmdgaaSRRow
import Derived.Test.YtaomecinemmdgaaSTwinI
import Derived.Test.YtaomecinemmdgaaSStepP
set_option linter.unusedVariables false
set_option linter.unusedSimpArgs false
namespace Go.Proofs.Ytaomecinemmdgaa
open Go.RowKit Go.Lib
set_option maxRecDepth 100000 in
set_option maxHeartbeats 1000000 in
theorem rkind_any (s : ByteArray) (w : World) (hs : s.size ≤ 1099511627776) :
    Calls Try.prog 73 #[.string s] w fun e w' => e = .returned (.int .i64 (kindP s : Int)) ∧ Below w.heap.size w w' := by
  go_enter Try.func73, Try.ntmps73
  go_wp2_with fail
  go_loopw [3] (fun i W => ∃ k : Nat, 1 ≤ k ∧ k ≤ 35 ∧ i = .int .i64 (k : Int) ∧ Hid (kindFrom s (35 - k) k = kindP s) ∧ Below w.heap.size w W) (fun i _ => 36 - (RowKit.intOf i).toNat)
  case atStart => exact ⟨1, by omega, by omega, rfl, Lib.hid rfl, Below.refl _ _⟩
  case round =>
    obtain ⟨k, hk1, hk, rfl, hI, hb⟩ := hrel
    rcases Nat.lt_or_ge k 35 with hlt | hge
    · have t1 : (k : Int) ≤ 34 := by omega
      have hrow := row_any k wr hk1 (by omega)
      have hI2 := hI.out
      rw [show 35 - k = (34 - k) + 1 by omega, kindFrom] at hI2
      unfold rowV at hrow
      generalize shapeAt k = F at *
      have hfd : ∀ W, (Instr.field 104 (.agg #[.string F.wd, .int .i64 (F.a : Int), .int .i64 (F.b : Int), .int .i64 (F.more : Int), .bool F.opts]) 0).run Try.prog W = .ok (.string F.wd) W := fun W => by kernel_rfl
      have HR := hide hrow; have HB := hide hb; clear hrow hb hI
      by_cases hw : F.wd = s
      · rw [if_pos ⟨by omega, hw⟩] at hI2
        have hr := Lib.hid hI2
        have y1 : (F.wd.toList == s.toList) = true := by rw [hw]; exact beq_self_eq_true _
        have y2 : F.wd.toList = s.toList := by rw [hw]
        clear hI2 hw
        go_wp2_with fail
        refine (unhide HR).mono ?_
        rintro e1 w1 ⟨rfl, hb1⟩
        have H1 := hide ((unhide HB).trans (hb1.mono (unhide HB).size)); clear hb1 HR HB
        go_wp2_with fail
        go_ret
        exact ⟨by rw [← hr.out]; rfl, unhide H1⟩
      · rw [if_neg (fun h => hw h.2)] at hI2
        have hr := Lib.hid hI2
        have y1 : (F.wd.toList == s.toList) = false := toList_ne hw
        have y2 : ¬ F.wd.toList = s.toList := by rw [beq_eq_false_iff_ne] at y1; exact y1
        clear hI2 hw
        go_wp2_with fail
        refine (unhide HR).mono ?_
        rintro e1 w1 ⟨rfl, hb1⟩
        have H1 := hide ((unhide HB).trans (hb1.mono (unhide HB).size)); clear hb1 HR HB
        go_wp2_with fail
        exact ⟨⟨k + 1, by omega, by omega, by go_num, Lib.hid (by rw [← hr.out, show 34 - k = 35 - (k + 1) by omega]), unhide H1⟩, by simp [RowKit.intOf]; omega⟩
    · have t1 : ¬ (k : Int) ≤ 34 := by omega
      have hr := hI.out
      rw [show 35 - k = 0 by omega, kindFrom] at hr
      have HR := Lib.hid hr; have HB := hide hb; clear hr hb hI
      go_wp2_with fail
      go_ret
      exact ⟨by rw [← HR.out]; rfl, unhide HB⟩
theorem wpList_appI1 {ops : Array Oper} {rest : List Oper} {o : Oper} {a : Act} {Q : Exit → Act → World → Prop} (w : World) (hgd : o.guard = none) (s x : Operand)
    (ho : o.op = .call { callee := .builtin .append, args := #[s, x], argTypes := #[27, 27] })
    {base : Nat} {v : Value} {es : List Int} (hown : OwnI w base v es) (hs : a.eval s = v) {z : Int} (hx : a.eval x = .slice (some ⟨w.heap.size, 0, none⟩) 1 1)
    (h47 : es.length + 1 ≤ 4398046511104) (hbase : base ≤ w.heap.size)
    (h : ∀ v' w', OwnI w' base v' (es ++ [z]) → (w.alloc (.cells #[.int .i64 z] 3)).grownBy w' v.ownBlock → (v'.ownBlock = v.ownBlock ∨ v'.ownBlock = some (w.heap.size + 1)) → wpList Try.prog ops Q rest (a.put o.dst v') w') :
    wpList Try.prog ops Q (o :: rest) a (w.alloc (.cells #[.int .i64 z] 3)) := by
  refine wpList_appI _ hgd s x ho (World.ownsRow.alloc hown _) hs (es2 := [z]) ⟨some ⟨w.heap.size, 0, none⟩, 1, rfl, fun j hj => ⟨_, rfl, ?_⟩⟩ hx (by simpa using h47) (by simp; omega) (fun v' w' h1 h2 h3 => h v' w' h1 h2 (by simpa using h3))
  obtain rfl : j = 0 := by simp at hj; exact hj
  have hadd : (⟨w.heap.size, 0, none⟩ : Addr).add 0 = ⟨w.heap.size, 0, none⟩ := by unfold Addr.add; simp
  rw [hadd, (Blk.new w 3 #[.int .i64 z]).cell 0]
  rfl
theorem appI_below {B : Nat} {w W W' : World} {v : Value} {es : List Int} {o : Obj} (hb : Below B w W) (hO : OwnI W B v es) (hW : B ≤ W.heap.size) (hg : (W.alloc o).grownBy W' v.ownBlock) : Below B w W' :=
  (hb.alloc hW o).grown hg (by simp; omega) (fun k hk => (World.ownsRow.lt hO k hk).1)
theorem ownI_below {w w' : World} {base : Nat} {v : Value} {l : List Int} (h : OwnI w base v l) (hb : Below w.heap.size w w') : OwnI w' base v l := row_low h (fun k hk => (World.ownsRow.lt h k hk).2) hb
/-- What numbersOf answers. -/
def NumR (w' : World) (base : Nat) (l : List ByteArray) (e : Ending) : Prop :=
  (∃ ns v, numsO l = some ns ∧ e = .returned (.tuple #[v, .int .i64 0]) ∧ OwnI w' base v ns) ∨ (numsO l = none ∧ e = .returned (.tuple #[.slice none 0 0, .int .i64 42]))
set_option maxRecDepth 100000 in
set_option maxHeartbeats 4000000 in
theorem rnums_any (v : Value) (ps : List ByteArray) (w : World) (hS : StrsAt w v ps) (hz : ∀ x ∈ ps, x.size ≤ 1099511627776) (hn : ps.length ≤ 1099511627777) :
    Calls Try.prog 74 #[v] w fun e w' => NumR w' w.heap.size ps e ∧ Below w.heap.size w w' := by
  obtain ⟨A, c, rfl, -⟩ := id hS
  have HS := hide (And.intro hS hz); clear hS hz
  go_enter Try.func74, Try.ntmps74
  go_wp2_with fail
  go_loopw [4, 5, 6, 7] (fun o i _ _ W => ∃ (j : Nat) (acc : List Int), j ≤ ps.length ∧ i = .int .i64 (j : Int) ∧ Hid ((numsO (ps.drop j)).map (acc ++ ·) = numsO ps) ∧ Hid (acc.length = j) ∧ OwnI W w.heap.size o acc ∧ Below w.heap.size w W) (fun _ i _ _ _ => ps.length - (RowKit.intOf i).toNat)
  case atStart => exact ⟨0, [], by omega, rfl, Lib.hid (by simp), Lib.hid rfl, World.ownsRow_nil _ _ _ _, Below.refl _ _⟩
  case round =>
    obtain ⟨j, acc, hj, rfl, hI, hal, hO, hb⟩ := hrel
    rcases Nat.lt_or_ge j ps.length with hlt | hge
    · have t0 : (0 : Int) ≤ (j : Int) := by omega
      have t1 : (j : Int) < (ps.length : Int) := by omega
      have qb : j ≤ 1099511627777 := by omega
      obtain ⟨a, rfl, hca⟩ := strs_at ((unhide HS).1.below hb) j hlt
      have hun := rundec_any ps[j] wr ((unhide HS).2 _ (List.getElem_mem hlt))
      have hI2 := hI.out
      rw [List.drop_eq_getElem_cons hlt, numsO] at hI2
      generalize ps[j] = x at *
      have HX := hide (And.intro hO hb); clear hO hb hI
      cases hE : undV x with
      | none =>
        rw [undA_none hE] at hun
        rw [hE] at hI2
        have hr : Hid (numsO ps = none) := Lib.hid (by rw [← hI2]; rfl)
        have HU := hide hun; clear hun hI2 hE
        go_wp2_with fail
        refine (unhide HU).mono ?_
        rintro e2 w2 ⟨rfl, rfl⟩
        go_wp2_with fail
        go_ret2
        exact ⟨.inr ⟨hr.out, rfl⟩, (unhide HX).2⟩
      | some t =>
        rw [undA_some hE] at hun
        rw [hE] at hI2
        have hI3 : Hid ((numsO (ps.drop (j + 1))).map ((acc ++ [t]) ++ ·) = numsO ps) := Lib.hid (by
          rw [← hI2]; simp only [Option.map_map]; congr 1; funext y; simp)
        have HU := hide hun; clear hun hI2 hE
        go_wp2_with fail
        refine (unhide HU).mono ?_
        rintro e2 w2 ⟨rfl, rfl⟩
        have hbz : Hid (w.heap.size ≤ wr.heap.size) := Lib.hid (unhide HX).2.size
        go_wp2_with (first | (at_builtin; refine wpList_appI1 wr rfl _ _ rfl (unhide HX).1 rfl rfl (by have := hal.out; omega) hbz.out ?_; intro v1 w3 hO1 hg1 hat1; have H4 := hide (And.intro hO1 (appI_below (unhide HX).2 (unhide HX).1 hbz.out hg1)); clear hO1 hg1 hat1))
        refine ⟨⟨j + 1, acc ++ [t], by omega, by go_num, hI3, Lib.hid (by have := hal.out; simp; omega), (unhide H4).1, (unhide H4).2⟩, by simp [RowKit.intOf]; omega⟩
    · have t1 : ¬ (j : Int) < (ps.length : Int) := by omega
      have hr : Hid (numsO ps = some acc) := Lib.hid (by rw [← hI.out, List.drop_eq_nil_of_le hge]; simp [numsO])
      have HX := hide (And.intro hO hb)
      obtain ⟨Ao, co, rfl, -⟩ := id hO.ints
      clear hO hb hI
      go_wp2_with fail
      go_ret2
      exact ⟨.inl ⟨acc, _, hr.out, rfl, (unhide HX).1⟩, (unhide HX).2⟩
end Go.Proofs.Ytaomecinemmdgaa

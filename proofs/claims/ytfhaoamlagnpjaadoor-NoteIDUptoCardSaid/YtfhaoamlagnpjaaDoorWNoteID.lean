/-
  THE WALK of the law NoteID.
-/
import Derived.Test.YtfhaoamlagnpjaaDoorRows
import Derived.Test.YtfhaoamlagnpjaaDoorWd
import Derived.Test.YtfhaoamlagnpjaaDoorNoteIDb
import Derived.Test.YtfhaoamlagnpjaaDoorLaid
import Derived.Test.YtfhaoamlagnpjaaDoorOpenKey
set_option linter.unusedVariables false
set_option linter.unusedSimpArgs false
namespace Go.Proofs.YtfhaoamlagnpjaaDoor
open Go.RowKit Go.Lib
theorem num_any (z : Nat) (w : World) (hz : z < 1000) : Calls Tryd.prog 13 #[.int .i64 (z : Int)] w fun e w' => e = .returned (.int .i64 (z : Int)) ∧ w = w' := by
  go_enter Tryd.func13, Tryd.ntmps13
  go_wp2
  go_ret
  exact ⟨rfl, rfl⟩
set_option maxRecDepth 100000 in
set_option maxHeartbeats 400000 in
theorem lawID_any (n s : ByteArray) (w : World) (hn : n.size ≤ 1048576) (hs : s.size ≤ 1048576) (h1 : TabOk w) (h2 : BeginOk w) (h3 : TabOkR w) (h4 : FirstOk w) :
    Calls Tryd.prog 4 #[.agg #[.string n, .string s]] w fun e W' => e = .returned (.bool true) ∧ Below w.heap.size w W' := by
  have ha : ∀ o : Obj, Below w.heap.size w (w.alloc o) := fun o => (Below.refl _ _).alloc (Nat.le_refl _) o
  have hA := fun o => noteID_any n s (w.alloc o) (by omega) (by omega) (h1.below (ha o) h1.lt) (h2.below (ha o) h2.lt)
  have HT := hide (And.intro h1 (And.intro h2 (And.intro h3 h4))); clear h1 h2 h3 h4
  obtain ⟨x, z, hid, hz⟩ : ∃ x z, idV n s = .tuple #[.string x, .int .i64 (z : Nat)] ∧ z < 1000 := by
    unfold idV
    split
    · exact ⟨_, 0, rfl, by decide⟩
    · exact ⟨_, 203, rfl, by decide⟩
  simp only [hid] at hA
  have HA := hide hA; clear hA
  have Hid1 := Lib.hid hid; clear hid
  go_enter Tryd.func4, Tryd.ntmps4
  go_wp2_with fail
  refine (unhide HA _).mono ?_
  rintro e w1 ⟨rfl, hb1⟩
  have hB1 := (Blk.new w 27 #[.string n, .string s]).below hb1 (by simp)
  have c0 := hB1.cell 0
  have c1 := hB1.cell 1
  simp at c0 c1
  have hbw1 : Below w.heap.size w w1 := (ha _).trans (hb1.mono (by simp))
  have hR := rID_any n s w1 (by omega) (by omega) ((unhide HT).2.2.1.below hbw1 (unhide HT).2.2.1.lt) ((unhide HT).2.2.2.below hbw1 (unhide HT).2.2.2.lt)
  rw [Hid1.out] at hR
  have H1 := hide hbw1; clear hbw1 hb1 hB1 ha
  go_wp2_with fail
  refine hR.mono ?_
  rintro e w2 ⟨rfl, hb2⟩
  have H2 := hide ((unhide H1).trans (hb2.mono (unhide H1).size)); clear hR hb2
  go_wp2_with fail
  refine (num_any z w2 hz).mono ?_
  rintro e w3 ⟨rfl, rfl⟩
  go_wp2_with fail
  go_ret
  exact ⟨rfl, unhide H2⟩
set_option maxRecDepth 100000 in
theorem noteID_walk {H : Type} {enc : TypeId × Value → H} (W : World) (base : Nat) (v0 : Value) (d0 : DataW H) (p0 : List MemPlace) (o0 : Value.okWide Tryd.prog W .any base 27 v0) (h0 : DataW.Trod enc Tryd.prog W 0 (fun _ => true) true 27 v0 d0 p0) (l0 : ∀ x ∈ p0, x.block < W.heap.size) (hz : (DataW.weightsEach Tryd.prog [27] ([d0] : List (DataW H))).all (· ≤ reachBytes) = true) (hk : Rows.uptoBulkAll ([d0] : List (DataW H)) ≤ 1048576) (hL : laidMetH Tryd.prog Rows.noteIDUptoRow.laid W) (hsh : W.ShapedOpen Tryd.prog) :
    Calls Tryd.prog 4 #[v0] W fun e W' => e = .returned (.bool true) ∧ Below W.heap.size W W' := by
  obtain ⟨h1, h2, h3, h4⟩ := noteID_tables hL
  obtain ⟨n, s, rfl, hb, rfl⟩ := open_key o0 h0
  simp only [Rows.uptoBulkAll, hb] at hk
  exact lawID_any n s W (by omega) (by omega) h1 h2 h3 h4
end Go.Proofs.YtfhaoamlagnpjaaDoor

/-
  CONTRACT of the document's answer for note: written.
-/
import Derived.Test.YtfhaoamlagnpjaaDoorRows
import Derived.Test.YtfhaoamlagnpjaaDoorGBase
import Derived.Test.YtfhaoamlagnpjaaDoorSRText
import Derived.Test.YtfhaoamlagnpjaaDoorSRAmong
import Derived.Test.YtfhaoamlagnpjaaDoorSWritten
set_option linter.unusedVariables false
set_option linter.unusedSimpArgs false
namespace Go.Proofs.YtfhaoamlagnpjaaDoor
open Go.RowKit Go.Lib
set_option maxRecDepth 100000 in
set_option maxHeartbeats 2000000 in
theorem rwritten_any (t : ByteArray) (v : Value) (xs : List SigR) (base : Nat) (w : World) (ht : t.size ≤ 1099511627776) (hx : (sigsL xs).length ≤ 1099511627776) (hxb : ∀ x ∈ xs, x.id.size ≤ 1099511627776 ∧ x.mc.size ≤ 1099511627776) (hn : xs.length ≤ 1099511627776) (hO : OwnG w base v xs) :
    Calls Tryd.prog 65 #[.string t, v] w fun e w' => e = .returned (.string (writB t xs)) ∧ Below w.heap.size w w' := by
  obtain ⟨A, c, rfl⟩ := hO.slice
  have hcell : ∀ j (hj : j < xs.length), ∃ g, A = some ⟨g, 0, none⟩ ∧ g < w.heap.size ∧ w.cell? ⟨g, j * 3, none⟩ = some (.string xs[j].nm) ∧ w.cell? ⟨g, j * 3 + 1, none⟩ = some (.string xs[j].id) ∧ w.cell? ⟨g, j * 3 + 2, none⟩ = some (.string xs[j].mc) := fun j hj => by
    rcases hO.form with ⟨_, he⟩ | ⟨g, cap, hv, h1, h2, h3⟩
    · rw [he] at hj; simp at hj
    · injection hv with e1 e2 e3
      subst e1 e3
      exact ⟨g, rfl, h2, hO.cell j 0 hj (by omega), hO.cell j 1 hj (by omega), hO.cell j 2 hj (by omega)⟩
  have HC := hide hcell; have HX := hide hx; have HXB := hide hxb; clear hcell hO hx hxb
  have x1 : ¬ (9223372036854775807 < t.size + 1) := by omega
  obtain ⟨v1, w1, hcv, hO1, hb1, hv1⟩ := run_bytesOf w (t ++ ⟨#[10]⟩) (by rw [ByteArray.size_append, show (⟨#[10]⟩ : ByteArray).size = 1 from rfl]; simp only [maxLen]; omega)
  have hF : (t ++ ⟨#[10]⟩ : ByteArray).data.toList = writL t (xs.take 0) := by
    unfold writL sigsL
    rw [ByteArray.data_append, Array.toList_append]
    simp
  rw [hF] at hO1
  have H1 := hide (And.intro hO1 hb1); clear hO1 hb1 hF
  go_enter Tryd.func65, Tryd.ntmps65
  go_wp2_with fail
  clear hcv
  go_loopw [5, 6] (fun v i wr => ∃ k : Nat, k ≤ xs.length ∧ i = .int .i64 k ∧ OwnB wr w.heap.size v (writL t (xs.take k)) ∧ Below w.heap.size w wr) (fun _ i _ => xs.length - (RowKit.intOf i).toNat)
  case atStart => exact ⟨0, by omega, rfl, (unhide H1).1, (unhide H1).2⟩
  case round =>
    clear H1
    obtain ⟨k, hk, rfl, hO, hb⟩ := hrel
    rcases Nat.lt_or_ge k xs.length with hlt | hge
    · obtain ⟨g, rfl, hg, c0, c1, c2⟩ := unhide HC k hlt
      have c0' := (hb.cell (p := ⟨g, k * 3, none⟩) hg).trans c0
      have c1' := (hb.cell (p := ⟨g, k * 3 + 1, none⟩) hg).trans c1
      have c2' := (hb.cell (p := ⟨g, k * 3 + 2, none⟩) hg).trans c2
      have hk2 : (k : Int) < (xs.length : Int) := by omega
      have hsz := sigsL_at xs k hlt
      have hsl := sigLine_size xs[k]
      have hxk := unhide HXB _ (List.getElem_mem hlt)
      have hnx : Hid (writL t (xs.take (k + 1)) = writL t (xs.take k) ++ (sigLine xs[k]).data.toList) := by
        unfold writL
        rw [Hid, sigsL_take_succ xs k hlt, ← List.append_assoc]
      have hwl : Hid ((writL t (xs.take k)).length ≤ t.size + 1 + (sigsL xs).length) := by
        have := sigsL_take_le xs k
        unfold writL
        rw [Hid, List.length_append, List.length_append, Array.length_toList]
        show t.size + 1 + _ ≤ _
        omega
      have HX' := unhide HX
      have hln := fun W => rline_any xs[k] W (by omega) (by omega) (by omega)
      unfold sigV at hln
      generalize hgx : xs[k] = x at *
      obtain ⟨L, hL⟩ : ∃ L, Hid (sigLine x = L) := ⟨_, Lib.hid rfl⟩
      rw [hL.out] at hln hnx hsz
      have hll : (writL t (xs.take k)).length + L.size ≤ 140737488355328 := by
        have := hwl.out
        omega
      have HLN := hide hln; have HXX := hide (And.intro hO hb); clear hln hO hb c0 c1 c2 hsz hsl hxk HX'
      go_wp2_with fail
      refine (unhide HLN _).mono ?_
      rintro e w2 ⟨rfl, hb2⟩
      have hO2 := (unhide HXX).1.below hb2
      have hb2' := (unhide HXX).2.trans (hb2.mono (unhide HXX).2.size)
      have H2 := hide (And.intro hO2 hb2'); clear hO2 hb2' hb2 c0' c1' c2'
      go_wp2_with (first | (at_builtin; refine wpList_app_str w2 rfl _ _ rfl (unhide H2).1 rfl L rfl hll (unhide H2).2.size ?_; intro v3 w3 hO3 hg3 hat3; have H3 := hide (And.intro hO3 (And.intro hg3 hat3)); clear hO3 hg3 hat3))
      go_roundw
      case rel =>
        refine ⟨k + 1, by omega, by go_num, ?_, (unhide H2).2.grown (unhide H3).2.1 (unhide H2).2.size (fun q hq => ((unhide H2).1.lt _ hq).1)⟩
        rw [hnx.out]
        exact (unhide H3).1
      case measure => simp [RowKit.intOf]; omega
    · have hk2 : ¬ (k : Int) < (xs.length : Int) := by omega
      rw [List.take_of_length_le hge] at hO
      have hcv := conv_own hO
      have H2 := hide hb; clear hO hb
      go_wp2_with fail
      go_ret
      exact ⟨rfl, unhide H2⟩
end Go.Proofs.YtfhaoamlagnpjaaDoor

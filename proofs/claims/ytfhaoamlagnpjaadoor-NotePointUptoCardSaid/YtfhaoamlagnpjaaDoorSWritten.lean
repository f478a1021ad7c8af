/-
  CONTRACT of package note: written.
-/
import Derived.Test.YtfhaoamlagnpjaaDoorRows
import Derived.Deep.RegionHeld3
import Derived.Test.YtfhaoamlagnpjaaDoorGBase
import Derived.Test.YtfhaoamlagnpjaaDoorSShelf
import Derived.Test.YtfhaoamlagnpjaaDoorGTx
import Derived.Test.YtfhaoamlagnpjaaDoorGDecs
import Derived.Test.YtfhaoamlagnpjaaDoorSRAmong
import Derived.Test.YtfhaoamlagnpjaaDoorGSigs
set_option linter.unusedVariables false
set_option linter.unusedSimpArgs false
namespace Go.Proofs.YtfhaoamlagnpjaaDoor
open Go.RowKit Go.Lib
/-- A note. -/
def sigsL (xs : List SigR) : List UInt8 := xs.flatMap fun x => (sigLine x).data.toList
def writL (t : ByteArray) (xs : List SigR) : List UInt8 := t.data.toList ++ [10] ++ sigsL xs
def writB (t : ByteArray) (xs : List SigR) : ByteArray := ⟨(writL t xs).toArray⟩
/-- What written answers. -/
def writA (t : ByteArray) (xs : List SigR) : Value := if 65536 < (writL t xs).length then .tuple #[.string ⟨#[]⟩, .int .i64 121] else .tuple #[.string (writB t xs), .int .i64 0]
theorem sigsL_take_succ (xs : List SigR) (k : Nat) (h : k < xs.length) : sigsL (xs.take (k + 1)) = sigsL (xs.take k) ++ (sigLine xs[k]).data.toList := by
  unfold sigsL
  rw [List.take_succ_eq_append_getElem h, List.flatMap_append]
  simp
theorem sigsL_take_le (xs : List SigR) (k : Nat) : (sigsL (xs.take k)).length ≤ (sigsL xs).length := by
  have h : sigsL xs = sigsL (xs.take k) ++ sigsL (xs.drop k) := by
    unfold sigsL
    rw [← List.flatMap_append, List.take_append_drop]
  rw [h, List.length_append]
  omega
theorem sigLine_size (x : SigR) : (sigLine x).size = 6 + x.nm.size + (b64S (x.id ++ x.mc)).size := by
  unfold sigLine
  simp only [ByteArray.size_append, show (⟨#[226, 128, 148, 32]⟩ : ByteArray).size = 4 from rfl, show (⟨#[32]⟩ : ByteArray).size = 1 from rfl, show (⟨#[10]⟩ : ByteArray).size = 1 from rfl]
  omega
theorem sigsL_at (xs : List SigR) (k : Nat) (h : k < xs.length) : (sigLine xs[k]).size ≤ (sigsL xs).length := by
  have h1 := sigsL_take_le xs (k + 1)
  rw [sigsL_take_succ xs k h, List.length_append] at h1
  have h2 : (sigLine xs[k]).data.toList.length = (sigLine xs[k]).size := Array.length_toList
  omega
set_option maxRecDepth 100000 in
set_option maxHeartbeats 4000000 in
theorem written_any (t : ByteArray) (v : Value) (xs : List SigR) (base : Nat) (w : World) (ht : t.size ≤ 1099511627776) (hx : (sigsL xs).length ≤ 1099511627776) (hxb : ∀ x ∈ xs, x.id.size ≤ 1099511627776 ∧ x.mc.size ≤ 1099511627776) (hn : xs.length ≤ 1099511627776) (hO : OwnG w base v xs) :
    Calls Tryd.prog 61 #[.string t, v] w fun e w' => e = .returned (writA t xs) ∧ Below w.heap.size w w' := by
  obtain ⟨A, c, rfl⟩ := hO.slice
  have hcell : ∀ j (hj : j < xs.length), ∃ g, A = some ⟨g, 0, none⟩ ∧ g < w.heap.size ∧ w.cell? ⟨g, j * 3, none⟩ = some (.string xs[j].nm) ∧ w.cell? ⟨g, j * 3 + 1, none⟩ = some (.string xs[j].id) ∧ w.cell? ⟨g, j * 3 + 2, none⟩ = some (.string xs[j].mc) := fun j hj => by
    rcases hO.form with ⟨_, he⟩ | ⟨g, cap, hv, h1, h2, h3⟩
    · rw [he] at hj; simp at hj
    · injection hv with e1 e2 e3
      subst e1 e3
      exact ⟨g, rfl, h2, hO.cell j 0 hj (by omega), hO.cell j 1 hj (by omega), hO.cell j 2 hj (by omega)⟩
  have HC := hide hcell; have HX := hide hx; have HXB := hide hxb; clear hcell hO hx hxb
  have x1 : ¬ (9223372036854775807 < t.size + 1) := by omega
  go_enter Tryd.func61, Tryd.ntmps61
  go_wp2_with fail
  have hB0 : Lib.IsBuilderF 77 5 w.heap.size w.heap.size [] (w.alloc (.cells #[.pointer none, .slice none 0 0] 77)) := Lib.IsBuilderF.of (Lib.fresh_isBuilder 77 5 w)
  have hb0 : Below w.heap.size w (w.alloc (.cells #[.pointer none, .slice none 0 0] 77)) := (Below.refl _ _).alloc (Nat.le_refl _) _
  have hs10 : ([] : List Value).length + (t ++ ⟨#[10]⟩ : ByteArray).size ≤ 140737488355328 := by
    rw [ByteArray.size_append, show (⟨#[10]⟩ : ByteArray).size = 1 from rfl, List.length_nil]
    omega
  generalize (w.alloc (.cells #[.pointer none, .slice none 0 0] 77)) = w0 at *
  have hws := writeString_any w.heap.size w.heap.size [] (t ++ ⟨#[10]⟩) w0 hB0 hs10 hb0.size
  refine hws.mono ?_
  rintro e w1 ⟨rfl, hB1, hb1, -⟩
  rw [List.nil_append, strCells_bytes] at hB1
  have H1 := hide (And.intro hB1 (hb0.trans hb1)); clear hB0 hb0 hB1 hb1
  have hF : (t ++ ⟨#[10]⟩ : ByteArray).data.toList = writL t (xs.take 0) := by
    unfold writL sigsL
    rw [ByteArray.data_append, Array.toList_append]
    simp
  rw [hF] at H1
  clear hF hs10 hws
  go_wp2_with fail
  go_loopw [14] (fun i wr => ∃ k : Nat, k ≤ xs.length ∧ i = .int .i64 k ∧ BuilderAtF 77 5 w.heap.size w.heap.size (.pointer (some ⟨w.heap.size, 0, none⟩)) (Lib.byteCells (writL t (xs.take k))) wr ∧ Below w.heap.size w wr) (fun i _ => xs.length - (RowKit.intOf i).toNat)
  case atStart => exact ⟨0, by omega, rfl, (unhide H1).1, (unhide H1).2⟩
  case round =>
    clear H1
    obtain ⟨k, hk, rfl, hB, hb⟩ := hrel
    rcases Nat.lt_or_ge k xs.length with hlt | hge
    · obtain ⟨g, rfl, hg, c0, c1, c2⟩ := unhide HC k hlt
      have c0' := (hb.cell (p := ⟨g, k * 3, none⟩) hg).trans c0
      have c1' := (hb.cell (p := ⟨g, k * 3 + 1, none⟩) hg).trans c1
      have c2' := (hb.cell (p := ⟨g, k * 3 + 2, none⟩) hg).trans c2
      have hk2 : (k : Int) < (xs.length : Int) := by omega
      have hsz := sigsL_at xs k hlt
      have hsl := sigLine_size xs[k]
      have hxk := unhide HXB _ (List.getElem_mem hlt)
      have hnx : Hid (writL t (xs.take (k + 1)) = writL t (xs.take k) ++ (sigLine xs[k]).data.toList) := by
        unfold writL
        rw [Hid, sigsL_take_succ xs k hlt, ← List.append_assoc]
      have hwl : Hid ((writL t (xs.take k)).length ≤ t.size + 1 + (sigsL xs).length) := by
        have := sigsL_take_le xs k
        unfold writL
        rw [Hid, List.length_append, List.length_append, Array.length_toList]
        show t.size + 1 + _ ≤ _
        omega
      generalize xs[k] = x at *
      obtain ⟨xn, xi, xm⟩ := x
      simp only at hxk hsl c0' c1' c2'
      have HX' := unhide HX
      have hb64 := fun W => b64_any (xi ++ xm) W (by rw [ByteArray.size_append]; omega)
      have hline : Hid (sigLine ⟨xn, xi, xm⟩ = ⟨#[226, 128, 148, 32]⟩ ++ xn ++ ⟨#[32]⟩ ++ b64S (xi ++ xm) ++ ⟨#[10]⟩) := rfl
      obtain ⟨D, hD⟩ : ∃ D, Hid (b64S (xi ++ xm) = D) := ⟨_, Lib.hid rfl⟩
      rw [hD.out] at hb64 hline hsl
      have y0 : ¬ 9223372036854775807 < 4 + xn.size := by omega
      have y1 : ¬ 9223372036854775807 < 4 + xn.size + 1 := by omega
      have y2 : ¬ 9223372036854775807 < xi.size + xm.size := by omega
      have y3 : ¬ 9223372036854775807 < 4 + xn.size + 1 + D.size := by omega
      have y4 : ¬ 9223372036854775807 < 4 + xn.size + 1 + D.size + 1 := by omega
      have hw1 : (Lib.byteCells (writL t (xs.take k))).length + (sigLine ⟨xn, xi, xm⟩).size ≤ 140737488355328 := by
        rw [Lib.byteCells_length]
        have := hwl.out
        omega
      rw [hline.out] at hw1
      have HBB := hide hb64; have HW1 := hide hw1; have HXX := hide (And.intro hB hb)
      clear hb64 hw1 hB hb c0 c1 c2 hsz hsl hxk HX' 
      have e4 : (⟨#[226, 128, 148, 32]⟩ : ByteArray).size = 4 := rfl
      have e1 : (⟨#[32]⟩ : ByteArray).size = 1 := rfl
      have e10 : (⟨#[10]⟩ : ByteArray).size = 1 := rfl
      go_wp2_with fail
      have hA0 := Blk.new wr 71 #[.string xn, .string xi, .string xm]
      have hbA : Below w.heap.size w (wr.alloc (.cells #[.string xn, .string xi, .string xm] 71)) := (unhide HXX).2.alloc (unhide HXX).2.size _
      have hBA := builder_below (Or.inr (unhide HXX).1) ((Below.refl wr.heap.size wr).alloc (Nat.le_refl _) (.cells #[.string xn, .string xi, .string xm] 71))
      have hge : w.heap.size < wr.heap.size := builder_lt (Or.inr (unhide HXX).1)
      generalize (wr.alloc (.cells #[.string xn, .string xi, .string xm] 71)) = wa at *
      generalize wr.heap.size = gx at *
      have k0 := hA0.cell 0; have k1 := hA0.cell 1; have k2 := hA0.cell 2
      simp only [List.getElem?_toArray, List.getElem?_cons_zero, List.getElem?_cons_succ] at k0 k1 k2
      have HA := hide (And.intro hA0 (And.intro hbA (And.intro hBA hge))); clear hA0 hbA hBA hge c0' c1' c2'
      go_region_held3 (fun W => W.cell? ⟨gx, 0, none⟩ = some (.string xn) ∧ W.cell? ⟨gx, 1, none⟩ = some (.string xi) ∧ W.cell? ⟨gx, 2, none⟩ = some (.string xm)) (refine ⟨?_, ?_, ?_⟩ <;> assumption) (first | (go_at_call 44; refine (unhide HBB _).mono ?_; rintro e w2 ⟨rfl, hb2⟩; have hA2 := (unhide HA).1.drew.below hb2 (unhide HA).1.lt; have hB2 := builder_below (builder_drew (unhide HA).2.2.1) hb2; have k20 := hA2.cell 0; have k21 := hA2.cell 1; have k22 := hA2.cell 2; simp only [List.getElem?_toArray, List.getElem?_cons_zero, List.getElem?_cons_succ] at k20 k21 k22) | (go_at_call 42; have hws := writeString_any w.heap.size w.heap.size (Lib.byteCells (writL t (xs.take k))) (⟨#[226, 128, 148, 32]⟩ ++ xn ++ ⟨#[32]⟩ ++ D ++ ⟨#[10]⟩) w2 hB2 (unhide HW1) (Nat.le_of_lt (builder_lt hB2)); refine hws.mono ?_; rintro e w3 ⟨rfl, hB3, hb3, ho3⟩; have hA3 : Blk w3 gx 71 #[.string xn, .string xi, .string xm] := ho3 gx _ hA2 (by intro e; injection e with e; have h1 := (unhide HA).2.2.2; omega) (by intro c fz e; injection e with e1 e2 e3; revert e2; decide); have k30 := hA3.cell 0; have k31 := hA3.cell 1; have k32 := hA3.cell 2; simp only [List.getElem?_toArray, List.getElem?_cons_zero, List.getElem?_cons_succ] at k30 k31 k32))
      have hb3' : Below w.heap.size w w3 := ((unhide HA).2.1.drew.trans (hb2.mono (unhide HA).2.1.size)).trans hb3
      rw [strCells_bytes, ← Lib.byteCells_append, ← hline.out, ← hnx.out] at hB3
      have H3 := hide (And.intro hB3 hb3')
      clear hB3 hb3' hb2 hb3 hA2 hB2 hws ho3 hA3 k20 k21 k22 k30 k31 k32 k0 k1 k2
      go_wp2_with fail
      go_roundw
      case rel => exact ⟨k + 1, by omega, by go_num, (unhide H3).1, (unhide H3).2⟩
      case measure => simp [RowKit.intOf]; omega
    · have hk2 : ¬ (k : Int) < (xs.length : Int) := by omega
      rw [List.take_of_length_le hge] at hB
      have hlen := Tryd.Builder_Len_f w.heap.size w.heap.size _ wr (.inr hB)
      have hst := Tryd.Builder_String_any_k w.heap.size w.heap.size _ wr (.inr hB) hb.size
      rw [Lib.byteCells_length] at hlen
      have HL := hide hlen; have HS := hide hst; have HB := hide hb; clear hlen hst hb hB
      rcases Nat.lt_or_ge 65536 (writL t xs).length with h6 | h6
      · have hr : Hid (writA t xs = .tuple #[.string ⟨#[]⟩, .int .i64 121]) := by unfold writA; rw [Hid, if_pos h6]
        have h6' : (65536 : Int) < ((writL t xs).length : Int) := by omega
        go_wp2_with fail
        refine (unhide HL).mono ?_
        rintro e w2 ⟨rfl, rfl⟩
        go_wp2_with fail
        go_ret2
        exact ⟨by rw [hr.out]; rfl, unhide HB⟩
      · have hr : Hid (writA t xs = .tuple #[.string (writB t xs), .int .i64 0]) := by unfold writA; rw [Hid, if_neg (by omega)]
        have h6' : ¬ (65536 : Int) < ((writL t xs).length : Int) := by omega
        go_wp2_with fail
        refine (unhide HL).mono ?_
        rintro e w2 ⟨rfl, rfl⟩
        go_wp2_with fail
        refine (unhide HS).mono ?_
        rintro e w3 ⟨rfl, -, hb3, -⟩
        have hb3' := (unhide HB).trans hb3
        have H3 := hide hb3'; clear hb3 hb3'
        go_wp2_with fail
        go_ret2
        exact ⟨by rw [hr.out]; rfl, unhide H3⟩
end Go.Proofs.YtfhaoamlagnpjaaDoor

/-
  THE PLAIN LAW behind NotePoint: a checkpoint's text is read back as it was, and goes as a note's text.
-/

import Derived.Test.YtfhaoamlagnpjaaDoorSNoteP
import Derived.Test.YtfhaoamlagnpjaaDoorSBackP
import Derived.Test.YtfhaoamlagnpjaaDoorSNamed
import Derived.Test.YtfhaoamlagnpjaaDoorSSigners
import Derived.Test.YtfhaoamlagnpjaaDoorSParse
set_option linter.unusedVariables false
set_option linter.unusedSimpArgs false
namespace Go.Proofs.YtfhaoamlagnpjaaDoor
open Go.RowKit
def pointT (o : ByteArray) (n : Int) (r : ByteArray) (es : List ByteArray) : ByteArray := ⟨((headB o n r).data.toList ++ linesL es).toArray⟩
theorem wholeP_line (s : ByteArray) (h : ∀ c ∈ s.data.toList, 32 ≤ c.toNat ∧ c.toNat < 127) : ∀ (n pos : Nat), s.size - pos ≤ n → wholeP false s pos = true := by
  intro n
  induction n with
  | zero => intro pos hn; exact wholeP_end (by omega)
  | succ n ih =>
    intro pos hn
    by_cases hp : pos < s.size
    · have hm : s[pos] ∈ s.data.toList := by
        have e : s[pos] = s.data.toList[pos]'(by rw [Array.length_toList]; exact hp) := rfl
        rw [e]; exact List.getElem_mem _
      have hc := h _ hm
      have hok : okB false s[pos].toNat = true := okB_high _ hc.1
      have hd := decode_ascii s pos hp (by omega)
      rw [wholeP, dif_pos hp, hd]
      simp only
      rw [if_neg (by omega), hok, if_neg (by decide)]
      exact ih _ (by omega)
    · exact wholeP_end hp
theorem name_line {s : ByteArray} (h : nameOk s = true) : lineOk s = true := by
  have h1 := h
  unfold nameOk at h1
  simp only [Bool.and_eq_true, decide_eq_true_eq] at h1
  unfold lineOk
  rw [decide_eq_true (by omega), Bool.true_and]
  exact wholeP_line s (fun c hc => by have := name_no h hc; omega) _ _ (Nat.le_refl _)
theorem name_free {s : ByteArray} (h : nameOk s = true) : (10 : UInt8) ∉ s.data.toList := fun hm => absurd (name_no h hm).1 (by decide)
set_option maxRecDepth 10000 in
theorem tabv_in : ∀ n : Fin 256, tabv (UInt8.ofNat n.val) ≠ 0 → 32 ≤ n.val ∧ n.val < 127 := by decide
theorem b64L_in (l : List UInt8) {c : UInt8} (hc : c ∈ b64L l) : 32 ≤ c.toNat ∧ c.toNat < 127 := by
  rw [b64L_bare] at hc
  rcases List.mem_append.1 hc with hc | hc
  · have h := (bare_valid l c hc).1
    have hlt := UInt8.toNat_lt c
    have e : UInt8.ofNat c.toNat = c := by simp
    exact tabv_in ⟨c.toNat, hlt⟩ (by simp only; rw [e]; exact h)
  · rw [(List.mem_replicate.1 hc).2]; decide
theorem digL_in (m : Nat) : ∀ c ∈ digL m, 48 ≤ c.toNat ∧ c.toNat ≤ 57 := by
  induction m using Nat.strongRecOn with
  | _ m ih =>
    rcases Nat.lt_or_ge m 10 with h | h
    · rw [digL_lt h]
      intro c hc
      rw [List.mem_singleton.1 hc, dig_nat m h]; omega
    · rw [digL_ge h]
      intro c hc
      rcases List.mem_append.1 hc with hc | hc
      · exact ih (m / 10) (by omega) c hc
      · have hm := Nat.mod_lt m (y := 10) (by omega)
        rw [List.mem_singleton.1 hc, dig_nat _ hm]; omega
theorem decL_in {n : Int} (h0 : 0 ≤ n) : ∀ c ∈ decL n, 48 ≤ c.toNat ∧ c.toNat ≤ 57 := by
  unfold decL
  rw [if_pos h0]
  exact digL_in _
theorem linesL_joinL (es : List ByteArray) : linesL es = joinL (es.map (·.data.toList)) := by
  unfold linesL joinL
  rw [List.flatMap_map]
theorem pointT_join (o : ByteArray) (n : Int) (r : ByteArray) (es : List ByteArray) : (pointT o n r es).data.toList = joinL (o.data.toList :: decL n :: b64L r.data.toList :: es.map (·.data.toList)) := by
  unfold pointT
  show ((headB o n r).data.toList ++ linesL es) = _
  rw [joinL_cons, joinL_cons, joinL_cons, linesL_joinL]
  unfold headB
  have h1 : (decS n).data.toList = decL n := by unfold decS; simp
  have h2 : (b64S r).data.toList = b64L r.data.toList := by unfold b64S; simp
  simp only [ByteArray.data_append, Array.toList_append, h1, h2]
  simp
/-- What a checkpoint out of any is. -/
structure PtOk (o : ByteArray) (n : Int) (r : ByteArray) (es : List ByteArray) : Prop where
  nm : nameOk o = true
  n0 : 0 ≤ n
  n1 : n ≤ 4611686018427387904
  r1 : 1 ≤ r.size
  r2 : r.size ≤ 32
  hes : ∀ x ∈ es, nameOk x = true
  l20 : es.length ≤ 20
theorem PtOk.text {o : ByteArray} {n : Int} {r : ByteArray} {es : List ByteArray} (h : PtOk o n r es) : textV o n r es = .tuple #[.string (pointT o n r es), .int .i64 0] := by
  unfold textV
  rw [if_neg (by rw [h.nm]; decide), if_neg (by have := h.n0; have := h.n1; omega), if_neg (by have := h.r1; have := h.r2; omega)]
  exact textM_yes fun j hj => name_line (h.hes _ (List.getElem_mem hj))
theorem PtOk.lines {o : ByteArray} {n : Int} {r : ByteArray} {es : List ByteArray} (h : PtOk o n r es) : linesV (pointT o n r es) = some (o :: decS n :: b64S r :: es) := by
  have e : pointT o n r es = bsL (joinL (o.data.toList :: decL n :: b64L r.data.toList :: es.map (·.data.toList))) := by rw [← pointT_join, bsL_toList]
  rw [e, linesV_join]
  · simp only [List.map_cons, List.map_map, bsL_toList]
    have h3 : es.map (bsL ∘ fun x => x.data.toList) = es := by
      conv => rhs; rw [← List.map_id es]
      exact List.map_congr_left fun x _ => bsL_toList x
    rw [h3]; rfl
  · intro x hx
    rcases List.mem_cons.1 hx with rfl | hx
    · exact name_free h.nm
    · rcases List.mem_cons.1 hx with rfl | hx
      · exact fun hm => absurd (decL_in h.n0 _ hm).1 (by decide)
      · rcases List.mem_cons.1 hx with rfl | hx
        · exact fun hm => absurd (b64L_in _ hm).1 (by decide)
        · obtain ⟨y, hy, rfl⟩ := List.mem_map.1 hx
          exact name_free (h.hes y hy)
theorem PtOk.parse {o : ByteArray} {n : Int} {r : ByteArray} {es : List ByteArray} (h : PtOk o n r es) : ParseR (pointT o n r es) ⟨o, n, r, es⟩ := by
  refine ⟨decS n, b64S r, h.lines, ?_, unb64V_of rfl, h.text⟩
  have hn : undL (decS n).data.toList = n := by
    have h1 : (decS n).data.toList = decL n := by unfold decS; simp
    rw [h1]; exact undL_dec n (by have := h.n0; omega) (by have := h.n1; omega)
  rw [undV_is _ _ hn, if_pos rfl]
theorem linesL_names : ∀ {es : List ByteArray}, (∀ x ∈ es, nameOk x = true) → (linesL es).length ≤ 65 * es.length
  | [], _ => by simp [linesL]
  | x :: r, h => by
    have h1 := h x List.mem_cons_self
    unfold nameOk at h1
    simp only [Bool.and_eq_true, decide_eq_true_eq] at h1
    rw [linesL_cons, List.length_cons]
    have := linesL_names (fun y hy => h y (List.mem_cons_of_mem _ hy))
    omega
theorem PtOk.size {o : ByteArray} {n : Int} {r : ByteArray} {es : List ByteArray} (h : PtOk o n r es) : (pointT o n r es).size ≤ 20001 := by
  have e : (pointT o n r es).size = ((headB o n r).data.toList ++ linesL es).length := by unfold pointT; show Array.size _ = _; rw [List.size_toArray]
  have h1 := h.nm
  unfold nameOk at h1
  simp only [Bool.and_eq_true, decide_eq_true_eq] at h1
  have h2 := linesL_names h.hes
  have h3 := h.l20
  have h4 : (decS n).size ≤ 20 := by
    have := decL_length n (by have := h.n0; omega) (by have := h.n1; omega)
    show (decL n).toArray.size ≤ 20
    rw [List.size_toArray]; exact this
  have h5 := b64S_size r
  have h6 := h.r2
  have h7 : (headB o n r).data.toList.length = (headB o n r).size := Array.length_toList
  have h8 : (headB o n r).size = o.size + 1 + (decS n).size + 1 + (b64S r).size + 1 := by
    unfold headB
    simp only [ByteArray.size_append, show (⟨#[10]⟩ : ByteArray).size = 1 from rfl]
  rw [e, List.length_append, h7, h8]
  omega
theorem joinL_in {P : UInt8 → Prop} : ∀ {ls : List (List UInt8)}, (∀ x ∈ ls, ∀ c ∈ x, P c) → ∀ c ∈ joinL ls, c = 10 ∨ P c := by
  intro ls h c hc
  unfold joinL at hc
  obtain ⟨x, hx, hc⟩ := List.mem_flatMap.1 hc
  rcases List.mem_append.1 hc with hc | hc
  · exact .inr (h x hx c hc)
  · exact .inl (List.mem_singleton.1 hc)
theorem PtOk.goes {o : ByteArray} {n : Int} {r : ByteArray} {es : List ByteArray} (h : PtOk o n r es) : goesV (pointT o n r es) = true := by
  have hj := pointT_join o n r es
  unfold goesV
  have hl : (pointT o n r es).data.toList.getLast? = some 10 := by
    rw [hj]
    generalize hb : (o.data.toList :: decL n :: b64L r.data.toList :: es.map (·.data.toList)) = b
    have hne : b ≠ [] := by rw [← hb]; simp
    rw [← List.dropLast_concat_getLast hne, joinL_app, joinL_one, ← List.append_assoc, List.getLast?_concat]
  rw [hl, decide_eq_true rfl, Bool.true_and]
  refine wholeP_ascii _ ?_ _ _ (Nat.le_refl _)
  intro c hc
  rw [hj] at hc
  refine joinL_in (P := fun c => 32 ≤ c.toNat ∧ c.toNat < 127) ?_ c hc
  intro x hx c hc
  rcases List.mem_cons.1 hx with rfl | hx
  · have := name_no h.nm hc; omega
  · rcases List.mem_cons.1 hx with rfl | hx
    · have := decL_in h.n0 _ hc; omega
    · rcases List.mem_cons.1 hx with rfl | hx
      · exact b64L_in _ hc
      · obtain ⟨y, hy, rfl⟩ := List.mem_map.1 hx
        have := name_no (h.hes y hy) hc; omega
/-- The note of the first signer alone, and what opens from it. -/
theorem point_sign {o : ByteArray} {n : Int} {r : ByteArray} {es : List ByteArray} (h : PtOk o n r es) : signA (pointT o n r es) [firstK] = .tuple #[.string (writB (pointT o n r es) (sgs (pointT o n r es) [firstK])), .int .i64 0] :=
  sign_all h.goes h.size (fun k hk => by simp at hk; subst hk; decide) (List.pairwise_singleton _ _) (by simp) (by simp)
theorem point_open {o : ByteArray} {n : Int} {r : ByteArray} {es : List ByteArray} (h : PtOk o n r es) : openX (writB (pointT o n r es) (sgs (pointT o n r es) [firstK])) [firstK] = (pointT o n r es, sgs (pointT o n r es) [firstK], [], 0) := by
  have h1 := openX_pick (t := pointT o n r es) (l := [firstK]) (fun _ => true) h.goes h.size (fun k hk => by simp at hk; subst hk; decide) (List.pairwise_singleton _ _) (by simp) (by simp)
  have e : pick (fun _ => true) 0 [firstK] = [firstK] := rfl
  rw [e] at h1
  rw [h1]; rfl
end Go.Proofs.YtfhaoamlagnpjaaDoor

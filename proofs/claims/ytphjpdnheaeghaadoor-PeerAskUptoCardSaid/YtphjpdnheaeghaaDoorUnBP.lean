/-
  THE PLAIN LAW of base64 read back: whoever reads what was written finds it, the program's way and the document's.
-/
import Derived.Test.YtphjpdnheaeghaaDoorRows
import Derived.Test.YtphjpdnheaeghaaDoorB64
set_option linter.unusedVariables false
set_option linter.unusedSimpArgs false
namespace Go.Proofs.YtphjpdnheaeghaaDoor
open Go.RowKit Go.Lib
/-- The place of a sign, counted from 1; 0: it is none. -/
def tabv (c : UInt8) : Nat :=
  let n := c.toNat
  if 65 ≤ n ∧ n ≤ 90 then n - 64 else if 97 ≤ n ∧ n ≤ 122 then n - 70 else if 48 ≤ n ∧ n ≤ 57 then n + 5 else if n = 43 then 63 else if n = 47 then 64 else 0
theorem tabv_le (c : UInt8) : tabv c ≤ 64 := by
  simp only [tabv]
  repeat' split
  all_goals omega
theorem sgn_tab_all : ∀ v : Fin 64, tabv (sgn v.val) = v.val + 1 ∧ sgn v.val ≠ 61 := by decide
theorem tab_sgn {v : Nat} (h : v < 64) : tabv (sgn v) = v + 1 := (sgn_tab_all ⟨v, h⟩).1
theorem sgn_ne {v : Nat} (h : v < 64) : sgn v ≠ 61 := (sgn_tab_all ⟨v, h⟩).2
/-- One digit of six bits more. -/
def digStep (st : Nat × Nat × List UInt8) (d : Nat) : Nat × Nat × List UInt8 :=
  if 2 ≤ st.2.1 then ((st.1 * 64 + d) % 2 ^ (st.2.1 - 2), st.2.1 - 2, st.2.2 ++ [((st.1 * 64 + d) / 2 ^ (st.2.1 - 2)).toUInt8]) else (st.1 * 64 + d, st.2.1 + 6, st.2.2)
def digRun (st : Nat × Nat × List UInt8) (l : List UInt8) : Nat × Nat × List UInt8 := l.foldl (fun st c => digStep st (tabv c - 1)) st
theorem digRun_cons (st : Nat × Nat × List UInt8) (c : UInt8) (l : List UInt8) : digRun st (c :: l) = digRun (digStep st (tabv c - 1)) l := rfl
/-- The signs alone. -/
def bareL : List UInt8 → List UInt8
  | [] => []
  | [a] => [sgn (a.toNat / 4), sgn (a.toNat % 4 * 16)]
  | [a, b] => [sgn (a.toNat / 4), sgn (a.toNat % 4 * 16 + b.toNat / 16), sgn (b.toNat % 16 * 4)]
  | a :: b :: c :: r => [sgn (a.toNat / 4), sgn (a.toNat % 4 * 16 + b.toNat / 16), sgn (b.toNat % 16 * 4 + c.toNat / 64), sgn (c.toNat % 64)] ++ bareL r
def padN (n : Nat) : Nat := (3 - n % 3) % 3
theorem padN_le (n : Nat) : padN n ≤ 2 := by unfold padN; omega
theorem four_eq (l : List UInt8) : four l = [put4 (val3 l) (min 3 l.length) 0, put4 (val3 l) (min 3 l.length) 1, put4 (val3 l) (min 3 l.length) 2, put4 (val3 l) (min 3 l.length) 3] := rfl
theorem b64L_bare : ∀ l : List UInt8, b64L l = bareL l ++ List.replicate (padN l.length) 61
  | [] => by rw [b64L_nil]; rfl
  | [a] => by
    have ha := a.toNat_lt
    rw [b64L_cons (by simp), four_eq]
    simp only [val3, put4, bareL, padN, List.drop, b64L_nil, List.length_cons, List.length_nil, List.getD_cons_zero, List.getD_cons_succ, List.getD_nil]
    simp only [List.append_nil]
    show [_, _, _, _] = [_, _, _, _]
    simp
    constructor
    · congr 1; omega
    · congr 1; omega
  | [a, b] => by
    have ha := a.toNat_lt
    have hb := b.toNat_lt
    rw [b64L_cons (by simp), four_eq]
    simp only [val3, put4, bareL, padN, List.drop, b64L_nil, List.length_cons, List.length_nil, List.getD_cons_zero, List.getD_cons_succ, List.getD_nil]
    simp only [List.append_nil]
    show [_, _, _, _] = [_, _, _, _]
    simp
    refine ⟨?_, ?_, ?_⟩
    · congr 1; omega
    · congr 1; omega
    · congr 1; omega
  | a :: b :: c :: r => by
    have ha := a.toNat_lt
    have hb := b.toNat_lt
    have hc := c.toNat_lt
    have e : padN (r.length + 1 + 1 + 1) = padN r.length := by unfold padN; omega
    rw [b64L_cons (by simp), four_eq, List.drop_succ_cons, List.drop_succ_cons, List.drop_succ_cons, List.drop_zero, b64L_bare r, bareL]
    have hm : min 3 (a :: b :: c :: r).length = 3 := by simp
    rw [hm, List.length_cons, List.length_cons, List.length_cons, e, List.append_assoc]
    congr 1
    simp only [val3, put4, List.getD_cons_zero, List.getD_cons_succ]
    simp
    refine ⟨?_, ?_, ?_, ?_⟩
    · congr 1; omega
    · congr 1; omega
    · congr 1; omega
    · congr 1; omega
theorem bare_valid : ∀ l : List UInt8, ∀ x ∈ bareL l, tabv x ≠ 0 ∧ x ≠ 61
  | [], x, h => by simp [bareL] at h
  | [a], x, h => by
    have ha := a.toNat_lt
    simp [bareL] at h
    rcases h with rfl | rfl
    · exact ⟨by rw [tab_sgn (by omega)]; omega, sgn_ne (by omega)⟩
    · exact ⟨by rw [tab_sgn (by omega)]; omega, sgn_ne (by omega)⟩
  | [a, b], x, h => by
    have ha := a.toNat_lt
    have hb := b.toNat_lt
    simp [bareL] at h
    rcases h with rfl | rfl | rfl
    · exact ⟨by rw [tab_sgn (by omega)]; omega, sgn_ne (by omega)⟩
    · exact ⟨by rw [tab_sgn (by omega)]; omega, sgn_ne (by omega)⟩
    · exact ⟨by rw [tab_sgn (by omega)]; omega, sgn_ne (by omega)⟩
  | a :: b :: c :: r, x, h => by
    have ha := a.toNat_lt
    have hb := b.toNat_lt
    have hc := c.toNat_lt
    simp [bareL] at h
    rcases h with rfl | rfl | rfl | rfl | h
    · exact ⟨by rw [tab_sgn (by omega)]; omega, sgn_ne (by omega)⟩
    · exact ⟨by rw [tab_sgn (by omega)]; omega, sgn_ne (by omega)⟩
    · exact ⟨by rw [tab_sgn (by omega)]; omega, sgn_ne (by omega)⟩
    · exact ⟨by rw [tab_sgn (by omega)]; omega, sgn_ne (by omega)⟩
    · exact bare_valid r x h
theorem u8_back {x : Nat} {c : UInt8} (h : x = c.toNat) : x.toUInt8 = c := by subst h; simp
theorem digStep0 (h : Nat) (out : List UInt8) (d : Nat) : digStep (h, 0, out) d = (h * 64 + d, 6, out) := rfl
theorem digStep6 (h : Nat) (out : List UInt8) (d : Nat) : digStep (h, 6, out) d = ((h * 64 + d) % 16, 4, out ++ [((h * 64 + d) / 16).toUInt8]) := rfl
theorem digStep4 (h : Nat) (out : List UInt8) (d : Nat) : digStep (h, 4, out) d = ((h * 64 + d) % 4, 2, out ++ [((h * 64 + d) / 4).toUInt8]) := rfl
theorem digStep2 (h : Nat) (out : List UInt8) (d : Nat) : digStep (h, 2, out) d = (0, 0, out ++ [(h * 64 + d).toUInt8]) := by
  unfold digStep
  simp [Nat.mod_one]
theorem bare_run : ∀ (l out : List UInt8), (digRun (0, 0, out) (bareL l)).2.2 = out ++ l
  | [], out => by simp [bareL, digRun]
  | [a], out => by
    have ha := a.toNat_lt
    rw [bareL]
    simp only [digRun_cons]
    rw [tab_sgn (by omega), tab_sgn (by omega)]
    simp only [digStep, digRun, List.foldl_nil]
    simp
    exact u8_back (by omega)
  | [a, b], out => by
    have ha := a.toNat_lt
    have hb := b.toNat_lt
    rw [bareL]
    simp only [digRun_cons]
    rw [tab_sgn (by omega), tab_sgn (by omega), tab_sgn (by omega)]
    simp only [digStep, digRun, List.foldl_nil]
    simp
    exact ⟨u8_back (by omega), u8_back (by omega)⟩
  | a :: b :: c :: r, out => by
    have ha := a.toNat_lt
    have hb := b.toNat_lt
    have hc := c.toNat_lt
    rw [bareL]
    simp only [digRun_cons, List.cons_append, List.nil_append]
    rw [tab_sgn (by omega), tab_sgn (by omega), tab_sgn (by omega), tab_sgn (by omega)]
    have h := bare_run r (out ++ [a] ++ [b] ++ [c])
    have e : digStep (digStep (digStep (digStep (0, 0, out) (a.toNat / 4 + 1 - 1)) (a.toNat % 4 * 16 + b.toNat / 16 + 1 - 1)) (b.toNat % 16 * 4 + c.toNat / 64 + 1 - 1)) (c.toNat % 64 + 1 - 1) = (0, 0, out ++ [a] ++ [b] ++ [c]) := by
      rw [digStep0, digStep6, digStep4, digStep2]
      rw [u8_back (c := a) (by omega), u8_back (c := b) (by omega), u8_back (c := c) (by omega)]
    rw [e, h]
    simp
/-- Up to two = at the end are cut. -/
def strip1 (l : List UInt8) : List UInt8 := if l.getLast? = some 61 then l.dropLast else l
def stripL (l : List UInt8) : List UInt8 := strip1 (strip1 l)
theorem strip1_app (l : List UInt8) : strip1 (l ++ [61]) = l := by simp [strip1]
theorem strip1_ne (l : List UInt8) (h : ∀ x ∈ l, x ≠ 61) : strip1 l = l := by
  unfold strip1
  rw [if_neg]
  intro e
  exact h _ (List.mem_of_getLast? e) rfl
theorem strip_b64 (l : List UInt8) : stripL (b64L l) = bareL l := by
  have hb := strip1_ne (bareL l) (fun x hx => (bare_valid l x hx).2)
  rw [b64L_bare]
  unfold stripL
  have hp := padN_le l.length
  generalize padN l.length = k at hp
  match k, hp with
  | 0, _ => simp [hb]
  | 1, _ => rw [show List.replicate 1 (61 : UInt8) = [61] from rfl, strip1_app, hb]
  | 2, _ => rw [show List.replicate 2 (61 : UInt8) = [61] ++ [61] from rfl, ← List.append_assoc, strip1_app, strip1_app]
/-- What base64 says, read the program's way, without a look whether it is so. -/
def undigL (l : List UInt8) : List UInt8 := (digRun (0, 0, []) (stripL l)).2.2
theorem undig_b64 (l : List UInt8) : undigL (b64L l) = l := by
  unfold undigL
  rw [strip_b64, bare_run, List.nil_append]
/-- The document's way: four by four. -/
def rval (c : UInt8) : Nat := tabv c - 1
def rfour (a b c d : UInt8) : Nat := rval a * 262144 + rval b * 4096 + rval c * 64 + rval d
def rgroups : List UInt8 → List UInt8
  | a :: b :: c :: d :: r => [(rfour a b c d / 65536).toUInt8, (rfour a b c d / 256 % 256).toUInt8, (rfour a b c d % 256).toUInt8] ++ rgroups r
  | _ => []
def rcut (l : List UInt8) : Nat := if l.getLast? = some 61 then (if l.dropLast.getLast? = some 61 then 2 else 1) else 0
theorem rval_sgn {v : Nat} (h : v < 64) : rval (sgn v) = v := by unfold rval; rw [tab_sgn h]; omega
theorem rgroups_b64 : ∀ l : List UInt8, rgroups (b64L l) = l ++ List.replicate (padN l.length) 0
  | [] => by rw [b64L_nil]; rfl
  | [a] => by
    have ha := a.toNat_lt
    rw [b64L_bare, bareL]
    show rgroups [_, _, 61, 61] = [_, 0, 0]
    simp only [rgroups, rfour]
    rw [rval_sgn (by omega), rval_sgn (by omega), show rval 61 = 0 from rfl]
    simp
    refine ⟨u8_back (by omega), ?_, ?_⟩
    · rw [show (a.toNat / 4 * 262144 + a.toNat % 4 * 16 * 4096) / 256 % 256 = 0 from by omega]; rfl
    · rw [show (a.toNat / 4 * 262144 + a.toNat % 4 * 16 * 4096) % 256 = 0 from by omega]; rfl
  | [a, b] => by
    have ha := a.toNat_lt
    have hb := b.toNat_lt
    rw [b64L_bare, bareL]
    show rgroups [_, _, _, 61] = [_, _, 0]
    simp only [rgroups, rfour]
    rw [rval_sgn (by omega), rval_sgn (by omega), rval_sgn (by omega), show rval 61 = 0 from rfl]
    simp
    refine ⟨u8_back (by omega), u8_back (by omega), u8_back (by show _ = 0; omega)⟩
  | a :: b :: c :: r => by
    have ha := a.toNat_lt
    have hb := b.toNat_lt
    have hc := c.toNat_lt
    have e : padN (r.length + 1 + 1 + 1) = padN r.length := by unfold padN; omega
    have h := rgroups_b64 r
    rw [b64L_bare] at h
    rw [b64L_bare, bareL, List.length_cons, List.length_cons, List.length_cons, e]
    simp only [List.cons_append, List.nil_append, rgroups, rfour]
    rw [h, rval_sgn (by omega), rval_sgn (by omega), rval_sgn (by omega), rval_sgn (by omega)]
    simp
    refine ⟨u8_back (by omega), u8_back (by omega), u8_back (by omega)⟩
theorem rcut_b64 (l : List UInt8) : rcut (b64L l) = padN l.length := by
  have hb := bare_valid l
  rw [b64L_bare]
  have hp := padN_le l.length
  have hn : (bareL l).getLast? ≠ some 61 := fun e => (hb _ (List.mem_of_getLast? e)).2 rfl
  generalize padN l.length = k at hp
  unfold rcut
  match k, hp with
  | 0, _ => simp [hn]
  | 1, _ => rw [show List.replicate 1 (61 : UInt8) = [61] from rfl]; simp [hn]
  | 2, _ => rw [show List.replicate 2 (61 : UInt8) = [61] ++ [61] from rfl, ← List.append_assoc]; simp
def rundigL (l : List UInt8) : List UInt8 := (rgroups l).take ((rgroups l).length - rcut l)
theorem rundig_b64 (l : List UInt8) : rundigL (b64L l) = l ∧ rcut (b64L l) ≤ (rgroups (b64L l)).length := by
  unfold rundigL
  rw [rgroups_b64, rcut_b64]
  simp
/-- The bytes that are written so, if any are. -/
def unb64V (s : ByteArray) : Option ByteArray := let t : ByteArray := ⟨(undigL s.data.toList).toArray⟩; if b64S t = s then some t else none
theorem b64S_list {t s : ByteArray} (h : b64S t = s) : s.data.toList = b64L t.data.toList := by rw [← h]; rfl
theorem unb64V_of {t s : ByteArray} (h : b64S t = s) : unb64V s = some t := by
  have e : (⟨(undigL s.data.toList).toArray⟩ : ByteArray) = t := by
    rw [b64S_list h, undig_b64]
  simp only [unb64V, e, h, if_true]
theorem unb64V_none {s : ByteArray} (h : ∀ t, b64S t ≠ s) : unb64V s = none := by
  simp only [unb64V]
  rw [if_neg (h _)]
theorem unb64V_some {t s : ByteArray} (h : unb64V s = some t) : b64S t = s := by
  simp only [unb64V] at h
  split at h
  · injection h with h; subst h; assumption
  · cases h
end Go.Proofs.YtphjpdnheaeghaaDoor

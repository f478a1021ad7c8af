/-
  PLAIN LAWS for PlayComesBack: what Text writes, Decode reads.
-/
import Derived.Test.YtaomecinemmdgaaRows
import Derived.Test.YtaomecinemmdgaaGBase
import Derived.Test.YtaomecinemmdgaaSRScript
import Derived.Test.YtaomecinemmdgaaSStepP
import Derived.Test.YtaomecinemmdgaaSDecP
import Derived.Test.YtaomecinemmdgaaSByL
set_option linter.unusedVariables false
namespace Go.Proofs.Ytaomecinemmdgaa
open Go.RowKit Go.Lib
/-- A sign that stands for itself in a word. -/
def plainC (c : UInt8) : Prop := 32 < c.toNat ∧ c.toNat < 127 ∧ c ≠ 37
theorem escL_plain : ∀ l : List UInt8, (∀ c ∈ l, plainC c) → l.flatMap escB = l
  | [], _ => rfl
  | c :: r, h => by
    have hc := h c (List.mem_cons_self ..)
    rw [List.flatMap_cons, escL_plain r (fun x hx => h x (List.mem_cons_of_mem _ hx))]
    unfold escB
    rw [if_pos (show 32 < c.toNat ∧ c.toNat < 127 ∧ c ≠ 37 from hc)]; rfl
theorem escS_plain {s : ByteArray} (hne : s ≠ ⟨#[]⟩) (h : ∀ c ∈ s.data.toList, plainC c) : escS s = s := by
  apply ByteArray.ext; apply Array.ext'
  rw [escS_cons hne, escL_plain _ h]
theorem unE_plain {s : ByteArray} (hne : s ≠ ⟨#[]⟩) (h : ∀ c ∈ s.data.toList, plainC c) : unE s = some s := by
  have := unE_esc s
  rwa [escS_plain hne h] at this
/-- No blank, no line's end. -/
def wordC (c : UInt8) : Prop := 32 < c.toNat
theorem escB_word (c : UInt8) : ∀ x ∈ escB c, wordC x := by
  have hh : ∀ v : Fin 16, wordC (hexB v.val) := by unfold wordC; decide
  have h := c.toNat_lt
  unfold escB
  split
  · rename_i h1; intro x hx; simp at hx; subst hx; exact h1.1
  · intro x hx
    simp at hx
    rcases hx with rfl | rfl | rfl
    · unfold wordC; decide
    · exact hh ⟨c.toNat / 16, by omega⟩
    · exact hh ⟨c.toNat % 16, by omega⟩
theorem escS_word (s : ByteArray) : ∀ x ∈ (escS s).data.toList, wordC x := by
  by_cases h : s = ⟨#[]⟩
  · rw [h, escS_nil]; intro x hx; simp [pctS] at hx; subst hx; unfold wordC; decide
  · rw [escS_cons h]
    intro x hx
    obtain ⟨c, -, hc⟩ := List.mem_flatMap.1 hx
    exact escB_word c x hc
theorem digL_plain : ∀ (k n : Nat), n < 10 ^ k → ∀ x ∈ digL n, plainC x
  | k, n, hk, x, hx => by
    rcases Nat.lt_or_ge n 10 with h | h
    · rw [digL_lt h] at hx
      rw [List.mem_singleton] at hx
      subst hx
      have e : ∀ v : Fin 10, plainC ((48 + v.val).toUInt8) := by unfold plainC; decide
      exact e ⟨n, h⟩
    · cases k with
      | zero => simp at hk; omega
      | succ k =>
        rw [digL_ge h] at hx
        rcases List.mem_append.1 hx with hx | hx
        · exact digL_plain k (n / 10) (by rw [Nat.pow_succ] at hk; omega) x hx
        · rw [List.mem_singleton] at hx
          subst hx
          have e : ∀ v : Fin 10, plainC ((48 + v.val).toUInt8) := by unfold plainC; decide
          exact e ⟨n % 10, by omega⟩
theorem digL_nonempty (n : Nat) : digL n ≠ [] := by
  rcases Nat.lt_or_ge n 10 with h | h
  · rw [digL_lt h]; simp
  · rw [digL_ge h]; simp
theorem decS_plain (z : Int) : decS z ≠ ⟨#[]⟩ ∧ ∀ x ∈ (decS z).data.toList, plainC x := by
  have hp : ∀ n : Nat, ∀ x ∈ digL n, plainC x := fun n => digL_plain (n + 1) n (by
    have h1 : 1 < 10 := by decide
    have h2 : n < 10 ^ n := Nat.lt_pow_self h1
    rw [Nat.pow_succ]
    omega)
  have hl : (decS z).data.toList = decL z := rfl
  refine ⟨fun e => ?_, ?_⟩
  · have h2 : decL z = [] := by rw [← hl, e]
    unfold decL at h2
    split at h2
    · exact digL_nonempty _ h2
    · cases h2
  · rw [hl]
    unfold decL
    split
    · exact hp _
    · intro x hx
      rcases List.mem_cons.1 hx with rfl | hx
      · unfold plainC; decide
      · exact hp _ x hx
theorem unE_dec (z : Int) : unE (decS z) = some (decS z) := unE_plain (decS_plain z).1 (decS_plain z).2
theorem wd_plain : ∀ k : Fin 35, 0 < k.val → (shapeAt k.val).wd ≠ ⟨#[]⟩ ∧ (∀ c ∈ (shapeAt k.val).wd.data.toList, plainC c) ∧ kindP (shapeAt k.val).wd = k.val ∧ (shapeAt k.val).wd.data.toList.head? ≠ some 35 := by
  unfold plainC
  decide
theorem splL_word {l : List UInt8} (h : ∀ x ∈ l, wordC x) : 32 ∉ l ∧ 10 ∉ l := ⟨fun hm => by have := h 32 hm; unfold wordC at this; exact absurd this (by decide), fun hm => by have := h 10 hm; unfold wordC at this; exact absurd this (by decide)⟩
/-- Words joined by blanks are parted into themselves. -/
theorem splL_spaced : ∀ (x : List UInt8) (ws : List ByteArray), 32 ∉ x → (∀ w ∈ ws, 32 ∉ w.data.toList) → splL 32 (x ++ spaced ws) = x :: ws.map (·.data.toList)
  | x, [], hx, _ => by
    show splL 32 (x ++ []) = _
    rw [List.append_nil, splL_free 32 x hx]; rfl
  | x, w :: r, hx, hw => by
    have h : spaced (w :: r) = 32 :: (w.data.toList ++ spaced r) := by unfold spaced; rw [List.flatMap_cons]; rfl
    rw [h, splL_at 32 x _ hx, splL_spaced w.data.toList r (hw w (List.mem_cons_self ..)) (fun y hy => hw y (List.mem_cons_of_mem _ hy))]
    rfl
theorem splL_joinSp {x : ByteArray} {ws : List ByteArray} (hx : 32 ∉ x.data.toList) (hw : ∀ w ∈ ws, 32 ∉ w.data.toList) : (splL 32 (joinSp (x :: ws))).map bsL = x :: ws := by
  rw [joinSp_cons, splL_spaced _ _ hx hw, List.map_cons, List.map_map]
  have hb : ∀ b : ByteArray, bsL b.data.toList = b := fun b => by apply ByteArray.ext; apply Array.ext'; rfl
  rw [hb]
  congr 1
  conv => rhs; rw [← List.map_id ws]
  exact List.map_congr_left fun b _ => hb b
theorem wlO_map : ∀ (l : List ByteArray) (g : ByteArray → ByteArray), (∀ x ∈ l, unE (g x) = some x) → wlO (l.map g) = some l
  | [], g, _ => rfl
  | x :: r, g, h => by
    rw [List.map_cons, wlO, h x (List.mem_cons_self ..)]
    simp only
    rw [wlO_map r g (fun y hy => h y (List.mem_cons_of_mem _ hy))]
    rfl
theorem wlO_app {a b u v : List ByteArray} (ha : wlO a = some u) (hb : wlO b = some v) : wlO (a ++ b) = some (u ++ v) := by
  induction a generalizing u with
  | nil => simp [wlO] at ha; subst ha; simpa using hb
  | cons x r ih =>
    rw [List.cons_append, wlO]
    rw [wlO] at ha
    cases hx : unE x with
    | none => rw [hx] at ha; cases ha
    | some t =>
      rw [hx] at ha
      obtain ⟨q, hq, rfl⟩ := Option.map_eq_some_iff.1 ha
      simp only [ih hq]
      rfl
/-- A step that has just what its kind names. -/
def Clean (s : StepR) : Prop := ∃ k : Nat, s.kind = (k : Int) ∧ 1 ≤ k ∧ k ≤ 34 ∧ s.o.length = 6 ∧ (∀ z ∈ s.ns, In64 z) ∧ (∀ z ∈ s.o, In64 z) ∧
  (if (shapeAt k).opts = true then s.ns = [] ∧ s.ss = [] else s.o = zero6 ∧ (if (shapeAt k).more = 1 then (shapeAt k).a ≤ s.ns.length ∧ s.ss = [] else s.ns.length = (shapeAt k).a ∧ (if (shapeAt k).more = 2 then True else s.ss.length = (shapeAt k).b)))
theorem range_getD {α : Type} (d : α) (g : α → ByteArray) (l : List α) : (List.range l.length).map (fun i => g (l.getD i d)) = l.map g := by
  apply List.ext_getElem
  · simp
  · intro i h1 h2
    simp only [List.getElem_map, List.getElem_range, List.getD_eq_getElem?_getD]
    rw [List.length_map, List.length_range] at h1
    rw [List.getElem?_eq_getElem h1]; rfl
/-- The words of a clean step. -/
theorem words_clean {s : StepR} (h : Clean s) : ∃ (k : Nat) (ns : List Int), s.kind = (k : Int) ∧ 1 ≤ k ∧ k ≤ 34 ∧ wordsD (shapeAt k) s = (shapeAt k).wd :: (ns.map decS ++ s.ss.map escS) ∧ (∀ z ∈ ns, In64 z) ∧ fits (shapeAt k) (ns.length + s.ss.length) = true ∧ numN (shapeAt k) (ns.length + s.ss.length) = ns.length ∧
    s = ⟨k, if (shapeAt k).opts = true then ns else zero6, if (shapeAt k).opts = true then [] else ns, s.ss⟩ := by
  obtain ⟨k, hk, h1, h2, h6, hn, ho, hc⟩ := h
  have ht := shape_tab ⟨k, by omega⟩
  simp only at ht
  obtain ⟨kd, o, ns, ss⟩ := s
  simp only at hk h6 hn ho hc
  subst hk
  generalize hF : shapeAt k = F at *
  obtain ⟨t1, t2, t3, t4, t5, t6⟩ := ht
  have enum : ∀ l : List Int, (List.range l.length).map (numS l) = l.map decS := fun l => range_getD 0 decS l
  have etxt : ∀ l : List ByteArray, (List.range l.length).map (txtS l) = l.map escS := fun l => range_getD (⟨#[]⟩ : ByteArray) escS l
  cases hop : F.opts with
  | true =>
    rw [if_pos hop] at hc
    obtain ⟨rfl, rfl⟩ := hc
    obtain ⟨ha, hb, hm⟩ := t1 hop
    refine ⟨k, o, rfl, h1, h2, ?_, ho, ?_, ?_, ?_⟩
    · rw [hF]; unfold wordsD cntS; simp [hop, hb, hm]
    · rw [hF]; unfold fits; simp [hop, hb, hm, h6]
    · rw [hF]; unfold numN; simp [hop, hm, h6]
    · rw [hF]; simp [hop]
  | false =>
    rw [if_neg (by rw [hop]; simp)] at hc
    obtain ⟨rfl, hc⟩ := hc
    by_cases hm1 : F.more = 1
    · rw [if_pos hm1] at hc
      obtain ⟨ha, rfl⟩ := hc
      have hb := t2 hm1
      refine ⟨k, ns, rfl, h1, h2, ?_, hn, ?_, ?_, ?_⟩
      · rw [hF]
        have e1 : cntN F ⟨(k : Int), zero6, ns, []⟩ = ns.length := by unfold cntN; simp only; split <;> omega
        have e2 : cntS F ⟨(k : Int), zero6, ns, []⟩ = 0 := by unfold cntS; simp only; split <;> omega
        unfold wordsD
        rw [e1, e2, enum]
        simp [hop]
      · rw [hF]; unfold fits; simp [hop, hb, hm1]; omega
      · rw [hF]; unfold numN; simp [hm1, hb]
      · rw [hF]; simp [hop]
    · rw [if_neg hm1] at hc
      obtain ⟨ha, hc⟩ := hc
      by_cases hm2 : F.more = 2
      · obtain ⟨ha0, hb0⟩ := t3 hm2
        refine ⟨k, ns, rfl, h1, h2, ?_, hn, ?_, ?_, ?_⟩
        · rw [hF]
          have e1 : cntN F ⟨(k : Int), zero6, ns, ss⟩ = ns.length := by unfold cntN; simp only; split <;> omega
          have e2 : cntS F ⟨(k : Int), zero6, ns, ss⟩ = ss.length := by unfold cntS; simp only; split <;> omega
          unfold wordsD
          rw [e1, e2, enum, etxt]
          simp [hop]
        · rw [hF]; unfold fits; simp [hop, ha0, hb0, hm2]
        · rw [hF]; unfold numN; simp [hm2, hop]; omega
        · rw [hF]; simp [hop]
      · rw [if_neg hm2] at hc
        refine ⟨k, ns, rfl, h1, h2, ?_, hn, ?_, ?_, ?_⟩
        · rw [hF]
          have e1 : cntN F ⟨(k : Int), zero6, ns, ss⟩ = ns.length := by unfold cntN; simp only; split <;> omega
          have e2 : cntS F ⟨(k : Int), zero6, ns, ss⟩ = ss.length := by unfold cntS; simp only; split <;> omega
          unfold wordsD
          rw [e1, e2, enum, etxt]
          simp [hop]
        · rw [hF]; unfold fits; simp [hop]; omega
        · rw [hF]; unfold numN; simp [hm1, hop]; omega
        · rw [hF]; simp [hop]
theorem wlO_dec : ∀ ns : List Int, wlO (ns.map decS) = some (ns.map decS)
  | [] => rfl
  | z :: r => by
    rw [List.map_cons, wlO, unE_dec]
    simp only
    rw [wlO_dec r]
    rfl
theorem numsO_dec : ∀ ns : List Int, (∀ z ∈ ns, In64 z) → numsO (ns.map decS) = some ns
  | [], _ => rfl
  | z :: r, h => by
    have hz := h z (List.mem_cons_self ..)
    rw [List.map_cons, numsO, undV_of hz.1 hz.2 rfl]
    simp only
    rw [numsO_dec r (fun y hy => h y (List.mem_cons_of_mem _ hy))]
    rfl
theorem spaced_chars : ∀ ws : List ByteArray, (∀ w ∈ ws, ∀ x ∈ w.data.toList, wordC x) → ∀ x ∈ spaced ws, x ≠ 10
  | [], _, x, hx => by simp [spaced] at hx
  | w :: r, h, x, hx => by
    have e : spaced (w :: r) = 32 :: (w.data.toList ++ spaced r) := by unfold spaced; rw [List.flatMap_cons]; rfl
    rw [e] at hx
    rcases List.mem_cons.1 hx with rfl | hx
    · decide
    · rcases List.mem_append.1 hx with hx | hx
      · have h1 := h w (List.mem_cons_self ..) x hx
        intro e2; subst e2; exact absurd h1 (by unfold wordC; decide)
      · exact spaced_chars r (fun y hy => h y (List.mem_cons_of_mem _ hy)) x hx
/-- The line of a clean step, without its end. -/
def lineW (s : StepR) : List UInt8 := joinSp (wordsD (shapeAt s.kind.toNat) s)
theorem clean_line {s : StepR} (h : Clean s) : lineP s = lineW s ++ [10] ∧ 10 ∉ lineW s ∧ lineW s ≠ [] ∧ (lineW s).head? ≠ some 35 ∧ ∃ ws, wdsL (bsL (lineW s)) = some ws ∧ stepO ws = .inr s := by
  obtain ⟨k, ns, hk, h1, h2, hw, hi, hf, hN, hs⟩ := words_clean h
  have hkt : s.kind.toNat = k := by rw [hk]; rfl
  have hwd := wd_plain ⟨k, by omega⟩ (by show 0 < k; omega)
  simp only at hwd
  obtain ⟨w1, w2, w3, w4⟩ := hwd
  have hlw : lineW s = joinSp ((shapeAt k).wd :: (ns.map decS ++ s.ss.map escS)) := by unfold lineW; rw [hkt, hw]
  have hch : ∀ w ∈ (ns.map decS ++ s.ss.map escS), ∀ x ∈ w.data.toList, wordC x := fun w hw x hx => by
    rcases List.mem_append.1 hw with hw | hw
    · obtain ⟨z, -, rfl⟩ := List.mem_map.1 hw
      exact ((decS_plain z).2 x hx).1
    · obtain ⟨y, -, rfl⟩ := List.mem_map.1 hw
      exact escS_word y x hx
  have hwl : (shapeAt k).wd.data.toList ≠ [] := fun e => w1 (by apply ByteArray.ext; apply Array.ext'; exact e)
  refine ⟨?_, ?_, ?_, ?_, ?_⟩
  · unfold lineP lineW
    rw [if_pos ⟨by omega, by omega⟩]
  · rw [hlw, joinSp_cons]
    intro hm
    rcases List.mem_append.1 hm with hm | hm
    · have := (w2 10 hm).1; exact absurd this (by decide)
    · exact spaced_chars _ hch 10 hm rfl
  · rw [hlw, joinSp_cons]
    intro e
    exact hwl (List.append_eq_nil_iff.1 e).1
  · rw [hlw, joinSp_cons]
    cases hx : (shapeAt k).wd.data.toList with
    | nil => exact absurd hx hwl
    | cons c r =>
      rw [hx] at w4
      exact w4
  · refine ⟨(shapeAt k).wd :: (ns.map decS ++ s.ss), ?_, ?_⟩
    · have hne : bsL (lineW s) ≠ ⟨#[]⟩ := fun e => by
        have h3 := congrArg (fun b : ByteArray => b.data.toList) e
        have h4 : lineW s = [] := h3
        rw [hlw, joinSp_cons] at h4
        exact hwl (List.append_eq_nil_iff.1 h4).1
      unfold wdsL
      rw [if_neg hne]
      have e1 : (bsL (lineW s)).data.toList = lineW s := rfl
      rw [e1, hlw, splL_joinSp (fun hm => by have := (w2 32 hm).1; exact absurd this (by decide)) (fun w hw hm => by have := hch w hw 32 hm; exact absurd this (by unfold wordC; decide))]
      rw [wlO, unE_plain w1 w2]
      simp only
      rw [wlO_app (wlO_dec ns) (wlO_map s.ss escS (fun x _ => unE_esc x))]
      rfl
    · have e2 : ((shapeAt k).wd :: (ns.map decS ++ s.ss)).length - 1 = ns.length + s.ss.length := by simp
      have e3 : (((shapeAt k).wd :: (ns.map decS ++ s.ss)).drop 1).take ns.length = ns.map decS := by
        rw [List.drop_one, List.tail_cons, List.take_left' (by simp)]
      have e4 : ((shapeAt k).wd :: (ns.map decS ++ s.ss)).drop (1 + ns.length) = s.ss := by
        rw [Nat.add_comm, List.drop_succ_cons, List.drop_left' (by simp)]
      have h3 := stepO_3 (ws := (shapeAt k).wd :: (ns.map decS ++ s.ss)) (k := k) (ns := ns) w3 (by omega) (by rw [e2]; exact hf) (by rw [e2, hN, e3]; exact numsO_dec ns hi)
      rw [h3, e2, hN, e4]
      exact congrArg Sum.inr hs.symm
theorem linL_clean : ∀ l : List StepR, (∀ s ∈ l, Clean s) → linL (scriptL l) = l.map lineW ∧ (scriptL l).count 10 = l.length
  | [], _ => ⟨linL_nil, rfl⟩
  | s :: r, h => by
    have hs := clean_line (h s (List.mem_cons_self ..))
    have ih := linL_clean r (fun x hx => h x (List.mem_cons_of_mem _ hx))
    have e : scriptL (s :: r) = lineW s ++ 10 :: scriptL r := by
      show (s :: r).flatMap lineP = _
      rw [List.flatMap_cons, hs.1, List.append_assoc]; rfl
    refine ⟨?_, ?_⟩
    · rw [e, linL_both, linL_first, splL_free 10 _ hs.2.1, ih.1]; rfl
    · rw [e, List.count_append, List.count_cons, ih.2, List.count_eq_zero_of_not_mem hs.2.1, List.length_cons]; simp
theorem decF_clean : ∀ (l : List StepR) (n : Nat) (acc : List StepR), (∀ s ∈ l, Clean s) → decF (l.map lineW) n acc = (acc ++ l, 0, 0)
  | [], n, acc, _ => by simp [decF]
  | s :: r, n, acc, h => by
    obtain ⟨-, -, h3, h4, ws, h5, h6⟩ := clean_line (h s (List.mem_cons_self ..))
    rw [List.map_cons, decF_yes (by rintro (h | h) <;> contradiction) h5 h6, decF_clean r (n + 1) _ (fun x hx => h x (List.mem_cons_of_mem _ hx)), List.append_assoc]
    rfl
/-- What Text writes, Decode reads. -/
theorem decO_clean (l : List StepR) (h : ∀ s ∈ l, Clean s) : decO (scriptB l) = (l, 0, 0) ∧ (scriptB l).data.toList.count 10 = l.length := by
  have e : (scriptB l).data.toList = scriptL l := rfl
  have hl := linL_clean l h
  unfold decO
  rw [e, hl.1, decF_clean l 1 [] h]
  exact ⟨rfl, hl.2⟩
end Go.Proofs.Ytaomecinemmdgaa

/-
  Several texts in one: PLAIN LAWS for Told: what is read has a line that is not too long; what is answered. | WORDS for the law's told: what a line is read as; the lists of lists that are gathered.
-/
import Derived.Test.YtnkioabdpploeaaGreatDoorRows
import Derived.Test.YtnkioabdpploeaaGreatDoorGBase
import Derived.Test.YtnkioabdpploeaaGreatDoorSDecP
import Derived.Test.YtnkioabdpploeaaGreatDoorSRTell
import Derived.Test.YtnkioabdpploeaaGreatDoorSWPlayTextExact
import Derived.Test.YtnkioabdpploeaaGreatDoorGApt
set_option linter.unusedVariables false
set_option linter.unusedSimpArgs false
namespace Go.Proofs.YtnkioabdpploeaaGreatDoor
open Go.RowKit Go.Lib
/-- All the bytes of some texts. -/
def sizesL : List ByteArray → Nat
  | [] => 0
  | x :: r => x.size + sizesL r
theorem sizesL_drop : ∀ (n : Nat) (l : List ByteArray), sizesL (l.drop n) ≤ sizesL l
  | 0, l => Nat.le_refl _
  | n + 1, [] => Nat.le_refl _
  | n + 1, x :: r => Nat.le_trans (sizesL_drop n r) (Nat.le_add_left _ _)
theorem splL_sum (c : UInt8) : ∀ l : List UInt8, sizesL ((splL c l).map bsL) ≤ l.length
  | [] => by simp [splL, sizesL, bsL]; rfl
  | x :: r => by
    have ih := splL_sum c r
    have hn := splL_ne c r
    simp only [splL]
    split
    · rw [List.map_cons, sizesL, List.length_cons]
      have : (bsL []).size = 0 := rfl
      omega
    · split
      · rename_i h t e
        rw [e, List.map_cons, sizesL] at ih
        rw [List.map_cons, sizesL, List.length_cons]
        have h1 : (bsL (x :: h)).size = h.length + 1 := by show (List.toArray _).size = _; rw [List.size_toArray, List.length_cons]
        have h2 : (bsL h).size = h.length := by show (List.toArray _).size = _; rw [List.size_toArray]
        omega
      · rename_i e; exact absurd e hn
theorem wlO_sum : ∀ {l ts : List ByteArray}, wlO l = some ts → sizesL ts ≤ sizesL l
  | [], ts, h => by simp [wlO] at h; subst h; exact Nat.le_refl _
  | x :: r, ts, h => by
    unfold wlO at h
    split at h
    · cases h
    · rename_i t hx
      obtain ⟨u, hu, rfl⟩ := Option.map_eq_some_iff.1 h
      have h1 := wlO_sum hu
      have h2 := unE_size hx
      show t.size + sizesL u ≤ x.size + sizesL r
      omega
theorem wdsL_sum {s : ByteArray} {ts : List ByteArray} (h : wdsL s = some ts) : sizesL ts ≤ s.size := by
  unfold wdsL at h
  split at h
  · injection h with h; subst h; exact Nat.zero_le _
  · have h1 := wlO_sum h
    have h2 := splL_sum 32 s.data.toList
    have h3 : s.data.toList.length = s.size := Array.length_toList
    omega
theorem spaced_esc : ∀ l : List ByteArray, (spaced (l.map escS)).length ≤ 3 * sizesL l + 2 * l.length
  | [] => by simp [spaced]
  | x :: r => by
    have h1 := spaced_esc r
    have h2 := escS_size x
    have h3 : (spaced ((x :: r).map escS)).length = (escS x).data.toList.length + 1 + (spaced (r.map escS)).length := by
      unfold spaced; rw [List.map_cons, List.flatMap_cons, List.length_append, List.length_cons]
    rw [h3, show (escS x).data.toList.length = (escS x).size from Array.length_toList, List.length_cons, sizesL]
    omega
theorem tell_sum (r : RpR) (hc : In64 r.c) (hn : ∀ z ∈ r.ns, In64 z) (hl : r.ns.length ≤ 1099511627776) : (tellB r).size ≤ 42 + 21 * r.ns.length + 3 * sizesL r.ss + 2 * r.ss.length := by
  have e32 : (⟨#[32]⟩ : ByteArray).size = 1 := rfl
  rw [tellB_eq, lnJ_size, ByteArray.size_append, ByteArray.size_append, e32, spaced_sub]
  have h1 := decS_size hc
  have h2 : (decS (r.ns.length : Int)).size ≤ 20 := decS_size ⟨by omega, by omega⟩
  have h3 := spaced_le 20 (r.ns.map decS) (fun x hx => by obtain ⟨z, hz, rfl⟩ := List.mem_map.1 hx; exact decS_size (hn z hz))
  have h4 := spaced_esc r.ss
  rw [List.length_map] at h3
  omega
theorem takeR_big {s : ByteArray} {ws : List ByteArray} (hw : wdsL s = some ws) (hl : 2 ≤ ws.length) (hk : 0 ≤ numV (ws.getD 1 ⟨#[]⟩) ∧ numV (ws.getD 1 ⟨#[]⟩) ≤ (ws.length : Int) - 2) (hs : s.size ≤ 33554432) : RpOk (takeR ws) := by
  obtain ⟨h1, h2⟩ := wdsL_size hw
  have hn : ∀ z ∈ (takeR ws).ns, In64 z := fun z hz => by
    obtain ⟨x, -, rfl⟩ := List.mem_map.1 hz
    exact numV_in x
  have hS : ∀ x ∈ (takeR ws).ss, x.size ≤ s.size := fun x hx => h1 x (List.mem_of_mem_drop hx)
  have l1 : (takeR ws).ns.length ≤ ws.length := by
    show (List.map _ _).length ≤ _
    rw [List.length_map, List.length_take, List.length_drop]; omega
  have l2 : (takeR ws).ss.length ≤ ws.length := by
    show (List.drop _ _).length ≤ _
    rw [List.length_drop]; omega
  refine ⟨numV_in _, hn, fun x hx => by have := hS x hx; omega, by omega, ?_⟩
  have h := tell_sum (takeR ws) (numV_in _) hn (by omega)
  have h5 : sizesL (takeR ws).ss ≤ sizesL ws := sizesL_drop _ _
  have h6 := wdsL_sum hw
  omega
/-- What Told answers. -/
def TolR (w' : World) (base : Nat) (s : ByteArray) (e : Ending) : Prop :=
  (∃ r vn vs, toldO s = some r ∧ e = .returned (.tuple #[.agg #[.int .i64 r.c, vn, vs], .int .i64 0]) ∧ OwnI w' base vn r.ns ∧ OwnT w' base vs r.ss) ∨
  (toldO s = none ∧ e = .returned (.tuple #[.agg #[.int .i64 0, .slice none 0 0, .slice none 0 0], .int .i64 271]))
theorem told_none1 {s : ByteArray} (h : wdsL s = none) : toldO s = none := by unfold toldO; rw [h]
theorem told_none2 {s : ByteArray} {ws : List ByteArray} (h : wdsL s = some ws) (hl : ws.length < 2) : toldO s = none := by unfold toldO; rw [h]; dsimp only; rw [if_pos hl]
theorem told_none3 {s : ByteArray} {ws : List ByteArray} (h : wdsL s = some ws) (hl : 2 ≤ ws.length) (hk : numV (ws.getD 1 ⟨#[]⟩) < 0 ∨ (ws.length : Int) - 2 < numV (ws.getD 1 ⟨#[]⟩)) : toldO s = none := by unfold toldO; rw [h]; dsimp only; rw [if_neg (by omega), if_pos hk]
theorem told_last {s : ByteArray} {ws : List ByteArray} (h : wdsL s = some ws) (hl : 2 ≤ ws.length) (hk : 0 ≤ numV (ws.getD 1 ⟨#[]⟩) ∧ numV (ws.getD 1 ⟨#[]⟩) ≤ (ws.length : Int) - 2) : toldO s = if tellB (takeR ws) = s then some (takeR ws) else none := by
  unfold toldO; rw [h]; dsimp only; rw [if_neg (by omega), if_neg (by omega)]
theorem told_bad1 {s : ByteArray} {ws : List ByteArray} (h : wdsL s = some ws) (hl : 2 ≤ ws.length) (hz : ws.length ≤ 1099511627776) (hn : numsO (ws.take 2) = none) : toldO s = none := by
  by_cases hk : 0 ≤ numV (ws.getD 1 ⟨#[]⟩) ∧ numV (ws.getD 1 ⟨#[]⟩) ≤ (ws.length : Int) - 2
  · rw [told_last h hl hk]
    split
    · rename_i ht
      have := (told_good h hl hk hz ht).1
      rw [hn] at this; cases this
    · rfl
  · exact told_none3 h hl (by omega)
theorem told_bad2 {s : ByteArray} {ws : List ByteArray} (h : wdsL s = some ws) (hl : 2 ≤ ws.length) (hz : ws.length ≤ 1099511627776) (hk : 0 ≤ numV (ws.getD 1 ⟨#[]⟩) ∧ numV (ws.getD 1 ⟨#[]⟩) ≤ (ws.length : Int) - 2) (hn : numsO ((ws.drop 2).take (numV (ws.getD 1 ⟨#[]⟩)).toNat) = none) : toldO s = none := by
  rw [told_last h hl hk]
  split
  · rename_i ht
    have := (told_good h hl hk hz ht).2
    rw [hn] at this; cases this
  · rfl
theorem take_two {ws : List ByteArray} (hl : 2 ≤ ws.length) : ws.take 2 = [ws.getD 0 ⟨#[]⟩, ws.getD 1 ⟨#[]⟩] := by
  match ws, hl with
  | x :: y :: r, _ => rfl
/-- The first two words, if both are numbers. -/
theorem nums_two {ws : List ByteArray} {ns : List Int} (hl : 2 ≤ ws.length) (h : numsO (ws.take 2) = some ns) : ns = [numV (ws.getD 0 ⟨#[]⟩), numV (ws.getD 1 ⟨#[]⟩)] := by
  have h2 := numsO_map h
  rw [← h2, take_two hl]; rfl
end Go.Proofs.YtnkioabdpploeaaGreatDoor

set_option linter.unusedVariables false
set_option linter.unusedSimpArgs false
namespace Go.Proofs.YtnkioabdpploeaaGreatDoor
open Go.RowKit Go.Lib
/-- What an append onto a row of one type leaves of another. -/
theorem grew_row {W w' : World} {base b n m sz : Nat} {T e : TypeId} {v v' u x : Value} {xs ys : List Value} (hg : Grew W w' base T v v' n xs x) (ho : W.ownsRow base T 1 v n xs) (he : e ≠ T) (h : W.ownsRow b e sz u m ys) : w'.ownsRow b e sz u m ys := by
  rcases hg with ⟨g, c, hv, rfl, ho2, hg⟩ | ⟨ho2, hg⟩
  · have hgv : v.ownBlock = some g := by rw [hv]; rfl
    rw [← hgv] at hg
    exact World.ownsRow.kept h hg (row_ne h ho he)
  · exact World.ownsRow.kept h hg (by cases u.ownBlock <;> simp)
/-- A list of rows, each in a block of its own. -/
structure Rs (B : Nat) (W : World) (T TL : TypeId) (i : Nat) (v : Value) (ls : List Value) (m : Nat → Nat) : Prop where
  o : W.ownsRow B TL 1 v i ls
  r : ∀ q, q < i → ∃ l, W.ownsRow B T 1 (ls.getD q (.slice none 0 0)) (m q) l
  d : ∀ q, q < i → ∀ q', q' < i → q ≠ q' → Far (ls.getD q (.slice none 0 0)) (ls.getD q' (.slice none 0 0))
theorem Rs.call {B : Nat} {W W' : World} {T TL : TypeId} {i : Nat} {v : Value} {ls : List Value} {m : Nat → Nat} (h : Rs B W T TL i v ls m) (hb : Below W.heap.size W W') : Rs B W' T TL i v ls m :=
  ⟨row_low h.o (fun k hk => (World.ownsRow.lt h.o k hk).2) hb, fun q hq => by obtain ⟨l, hl⟩ := h.r q hq; exact ⟨l, row_low hl (fun k hk => (World.ownsRow.lt hl k hk).2) hb⟩, h.d⟩
/-- A row that a later call made lies apart from all. -/
theorem Rs.far {B : Nat} {W W' : World} {T TL : TypeId} {i n sz : Nat} {v x : Value} {ls ys : List Value} {m : Nat → Nat} {e : TypeId} (h : Rs B W T TL i v ls m) (hx : W'.ownsRow W.heap.size e sz x n ys) : ∀ q, q < i → Far (ls.getD q (.slice none 0 0)) x := fun q hq g h1 h2 => by
  obtain ⟨l, hl⟩ := h.r q hq
  have := (World.ownsRow.lt hl g h1).2
  have := (World.ownsRow.lt hx g h2).1
  omega
theorem Rs.push {B : Nat} {W W' : World} {T TL : TypeId} {i : Nat} {v v' x : Value} {ls l : List Value} {m : Nat → Nat} (h : Rs B W T TL i v ls m) (hg : Grew W W' B TL v v' i ls x) (hT : T ≠ TL) (hB : B ≤ W.heap.size) (hx : W.ownsRow B T 1 x (m i) l) (hf : ∀ q, q < i → Far (ls.getD q (.slice none 0 0)) x) : Rs B W' T TL (i + 1) v' (ls ++ [x]) m := by
  have hl : ls.length = i := by have := h.o.1; omega
  refine ⟨hg.row hB, fun q hq => ?_, fun q hq q' hq' e => ?_⟩
  · by_cases e : q = i
    · subst e; rw [getD_last _ _ _ _ hl]; exact ⟨l, grew_row hg h.o hT hx⟩
    · rw [getD_front _ _ _ _ (by omega)]
      obtain ⟨l', hl'⟩ := h.r q (by omega)
      exact ⟨l', grew_row hg h.o hT hl'⟩
  · by_cases e1 : q = i
    · subst e1
      rw [getD_last _ _ _ _ hl, getD_front _ _ _ _ (by omega)]
      exact (hf q' (by omega)).symm
    · by_cases e2 : q' = i
      · subst e2
        rw [getD_last _ _ _ _ hl, getD_front _ _ _ _ (by omega)]
        exact hf q (by omega)
      · rw [getD_front _ _ _ _ (by omega), getD_front _ _ _ _ (by omega)]
        exact h.d q (by omega) q' (by omega) e
theorem Rs.nil (B : Nat) (W : World) (T TL : TypeId) (m : Nat → Nat) : Rs B W T TL 0 (.slice none 0 0) [] m := ⟨World.ownsRow_nil _ _ _ _, fun q hq => absurd hq (by omega), fun q hq => absurd hq (by omega)⟩
theorem Rs.keep {B : Nat} {W W' : World} {T TL T' : TypeId} {i B' : Nat} {v : Value} {ls : List Value} {m : Nat → Nat} (h : Rs B W T TL i v ls m) (hk : KeepT T' B' W W') (h1 : T ≠ T') (h2 : TL ≠ T') : Rs B W' T TL i v ls m :=
  ⟨hk.row h2 h.o, fun q hq => by obtain ⟨l, hl⟩ := h.r q hq; exact ⟨l, hk.row h1 hl⟩, h.d⟩
end Go.Proofs.YtnkioabdpploeaaGreatDoor

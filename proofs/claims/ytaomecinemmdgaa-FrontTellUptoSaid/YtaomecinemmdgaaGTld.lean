/-
  Several texts in one: PLAIN LAWS for Told: what is read has a line that is not too long; what is answered. | WORDS for the law's told: what a line is read as; the lists of lists that are gathered.
-/
import Derived.Test.YtaomecinemmdgaaRows
import Derived.Test.YtaomecinemmdgaaGBase
import Derived.Test.YtaomecinemmdgaaSDecP
import Derived.Test.YtaomecinemmdgaaSRTell
import Derived.Test.YtaomecinemmdgaaSWPlayTextExact
import Derived.Test.YtaomecinemmdgaaGApt
set_option linter.unusedVariables false
set_option linter.unusedSimpArgs false
namespace Go.Proofs.Ytaomecinemmdgaa
open Go.RowKit Go.Lib
theorem tell_size (r : RpR) (hc : In64 r.c) (hn : ∀ z ∈ r.ns, In64 z) (B : Nat) (hB : ∀ x ∈ r.ss, x.size ≤ B) (hl : r.ns.length ≤ 1099511627776) : (tellB r).size ≤ 42 + 21 * r.ns.length + (3 * B + 2) * r.ss.length := by
  have e32 : (⟨#[32]⟩ : ByteArray).size = 1 := rfl
  rw [tellB_eq, lnJ_size, ByteArray.size_append, ByteArray.size_append, e32, spaced_sub]
  have h1 := decS_size hc
  have h2 : (decS (r.ns.length : Int)).size ≤ 20 := decS_size ⟨by omega, by omega⟩
  have h3 := spaced_le 20 (r.ns.map decS) (fun x hx => by obtain ⟨z, hz, rfl⟩ := List.mem_map.1 hx; exact decS_size (hn z hz))
  have h4 := spaced_le (3 * B + 1) (r.ss.map escS) (fun x hx => by
    obtain ⟨z, hz, rfl⟩ := List.mem_map.1 hx
    have := escS_size z
    have := hB z hz
    omega)
  rw [List.length_map] at h3 h4
  rw [show 3 * B + 1 + 1 = 3 * B + 2 from rfl] at h4
  omega
theorem takeR_ok {s : ByteArray} {ws : List ByteArray} (hw : wdsL s = some ws) (hl : 2 ≤ ws.length) (hk : 0 ≤ numV (ws.getD 1 ⟨#[]⟩) ∧ numV (ws.getD 1 ⟨#[]⟩) ≤ (ws.length : Int) - 2) (hs : s.size ≤ 1048577) : RpOk (takeR ws) := by
  obtain ⟨h1, h2⟩ := wdsL_size hw
  have hn : ∀ z ∈ (takeR ws).ns, In64 z := fun z hz => by
    obtain ⟨x, -, rfl⟩ := List.mem_map.1 hz
    exact numV_in x
  have hS : ∀ x ∈ (takeR ws).ss, x.size ≤ s.size := fun x hx => h1 x (List.mem_of_mem_drop hx)
  have l1 : (takeR ws).ns.length ≤ ws.length := by
    show (List.map _ _).length ≤ _
    rw [List.length_map, List.length_take, List.length_drop]; omega
  have l2 : (takeR ws).ss.length ≤ ws.length := by
    show (List.drop _ _).length ≤ _
    rw [List.length_drop]; omega
  refine ⟨numV_in _, hn, fun x hx => by have := hS x hx; omega, by omega, ?_⟩
  have h := tell_size (takeR ws) (numV_in _) hn 1048577 (fun x hx => by have := hS x hx; omega) (by omega)
  have h5 : (3 * 1048577 + 2) * (takeR ws).ss.length ≤ (3 * 1048577 + 2) * 1048578 := Nat.mul_le_mul_left _ (by omega)
  omega
/-- What Told answers. -/
def TolR (w' : World) (base : Nat) (s : ByteArray) (e : Ending) : Prop :=
  (∃ r vn vs, toldO s = some r ∧ e = .returned (.tuple #[.agg #[.int .i64 r.c, vn, vs], .int .i64 0]) ∧ OwnI w' base vn r.ns ∧ OwnT w' base vs r.ss) ∨
  (toldO s = none ∧ e = .returned (.tuple #[.agg #[.int .i64 0, .slice none 0 0, .slice none 0 0], .int .i64 271]))
theorem told_none1 {s : ByteArray} (h : wdsL s = none) : toldO s = none := by unfold toldO; rw [h]
theorem told_none2 {s : ByteArray} {ws : List ByteArray} (h : wdsL s = some ws) (hl : ws.length < 2) : toldO s = none := by unfold toldO; rw [h]; dsimp only; rw [if_pos hl]
theorem told_none3 {s : ByteArray} {ws : List ByteArray} (h : wdsL s = some ws) (hl : 2 ≤ ws.length) (hk : numV (ws.getD 1 ⟨#[]⟩) < 0 ∨ (ws.length : Int) - 2 < numV (ws.getD 1 ⟨#[]⟩)) : toldO s = none := by unfold toldO; rw [h]; dsimp only; rw [if_neg (by omega), if_pos hk]
theorem told_last {s : ByteArray} {ws : List ByteArray} (h : wdsL s = some ws) (hl : 2 ≤ ws.length) (hk : 0 ≤ numV (ws.getD 1 ⟨#[]⟩) ∧ numV (ws.getD 1 ⟨#[]⟩) ≤ (ws.length : Int) - 2) : toldO s = if tellB (takeR ws) = s then some (takeR ws) else none := by
  unfold toldO; rw [h]; dsimp only; rw [if_neg (by omega), if_neg (by omega)]
theorem told_bad1 {s : ByteArray} {ws : List ByteArray} (h : wdsL s = some ws) (hl : 2 ≤ ws.length) (hz : ws.length ≤ 1099511627776) (hn : numsO (ws.take 2) = none) : toldO s = none := by
  by_cases hk : 0 ≤ numV (ws.getD 1 ⟨#[]⟩) ∧ numV (ws.getD 1 ⟨#[]⟩) ≤ (ws.length : Int) - 2
  · rw [told_last h hl hk]
    split
    · rename_i ht
      have := (told_good h hl hk hz ht).1
      rw [hn] at this; cases this
    · rfl
  · exact told_none3 h hl (by omega)
theorem told_bad2 {s : ByteArray} {ws : List ByteArray} (h : wdsL s = some ws) (hl : 2 ≤ ws.length) (hz : ws.length ≤ 1099511627776) (hk : 0 ≤ numV (ws.getD 1 ⟨#[]⟩) ∧ numV (ws.getD 1 ⟨#[]⟩) ≤ (ws.length : Int) - 2) (hn : numsO ((ws.drop 2).take (numV (ws.getD 1 ⟨#[]⟩)).toNat) = none) : toldO s = none := by
  rw [told_last h hl hk]
  split
  · rename_i ht
    have := (told_good h hl hk hz ht).2
    rw [hn] at this; cases this
  · rfl
theorem take_two {ws : List ByteArray} (hl : 2 ≤ ws.length) : ws.take 2 = [ws.getD 0 ⟨#[]⟩, ws.getD 1 ⟨#[]⟩] := by
  match ws, hl with
  | x :: y :: r, _ => rfl
/-- The first two words, if both are numbers. -/
theorem nums_two {ws : List ByteArray} {ns : List Int} (hl : 2 ≤ ws.length) (h : numsO (ws.take 2) = some ns) : ns = [numV (ws.getD 0 ⟨#[]⟩), numV (ws.getD 1 ⟨#[]⟩)] := by
  have h2 := numsO_map h
  rw [← h2, take_two hl]; rfl
end Go.Proofs.Ytaomecinemmdgaa

set_option linter.unusedVariables false
set_option linter.unusedSimpArgs false
namespace Go.Proofs.Ytaomecinemmdgaa
open Go.RowKit Go.Lib
/-- The reply that a line is read as; an empty one where it is none. -/
def resR (s : ByteArray) : RpR := (toldO s).getD ⟨0, [], []⟩
def resE (s : ByteArray) : Int := if (toldO s).isSome then 0 else 271
theorem tol_form {w' : World} {base : Nat} {s : ByteArray} {e : Ending} (h : TolR w' base s e) : ∃ vn vs, e = .returned (.tuple #[.agg #[.int .i64 (resR s).c, vn, vs], .int .i64 (resE s)]) ∧ OwnI w' base vn (resR s).ns ∧ OwnT w' base vs (resR s).ss := by
  rcases h with ⟨r, vn, vs, hr, rfl, hn, hs⟩ | ⟨hr, rfl⟩
  · unfold resR resE; rw [hr]
    exact ⟨vn, vs, rfl, hn, hs⟩
  · unfold resR resE; rw [hr]
    exact ⟨_, _, rfl, World.ownsRow_nil _ _ _ _, World.ownsRow_nil _ _ _ _⟩
theorem resE_le (s : ByteArray) : 0 ≤ resE s ∧ resE s ≤ 271 := by unfold resE; split <;> omega
theorem told_ok {s : ByteArray} {r : RpR} (h : toldO s = some r) (hs : s.size ≤ 1048577) : RpOk r := by
  unfold toldO at h
  split at h
  · cases h
  · rename_i ws hw
    split at h
    · cases h
    · split at h
      · cases h
      · rename_i h1 h2
        split at h
        · injection h with h
          subst h
          exact takeR_ok hw (by omega) (by omega) hs
        · cases h
theorem res_len (s : ByteArray) (hs : s.size ≤ 1048577) : (resR s).ns.length ≤ 1099511627000 ∧ (resR s).ss.length ≤ 1099511627000 := by
  unfold resR
  cases h : toldO s with
  | none => simp
  | some r => have := (told_ok h hs).l; simp; omega
theorem res_in (s : ByteArray) (hs : s.size ≤ 1048577) : In64 (resR s).c := by
  unfold resR
  cases h : toldO s with
  | none => exact ⟨by simp, by simp⟩
  | some r => exact (told_ok h hs).c
/-- What an append onto a row of one type leaves of another. -/
theorem grew_row {W w' : World} {base b n m sz : Nat} {T e : TypeId} {v v' u x : Value} {xs ys : List Value} (hg : Grew W w' base T v v' n xs x) (ho : W.ownsRow base T 1 v n xs) (he : e ≠ T) (h : W.ownsRow b e sz u m ys) : w'.ownsRow b e sz u m ys := by
  rcases hg with ⟨g, c, hv, rfl, ho2, hg⟩ | ⟨ho2, hg⟩
  · have hgv : v.ownBlock = some g := by rw [hv]; rfl
    rw [← hgv] at hg
    exact World.ownsRow.kept h hg (row_ne h ho he)
  · exact World.ownsRow.kept h hg (by cases u.ownBlock <;> simp)
theorem grew_blk {W w' : World} {base n g : Nat} {T t : TypeId} {v v' x : Value} {xs : List Value} {cs : Array Value} (hg : Grew W w' base T v v' n xs x) (ho : W.ownsRow base T 1 v n xs) (he : T ≠ t) (h : Blk W g t cs) : Blk w' g t cs := by
  rcases hg with ⟨q, c, hv, rfl, ho2, hg⟩ | ⟨ho2, hg⟩
  · have hgv : v.ownBlock = some q := by rw [hv]; rfl
    exact h.grown hg (fun e => own_blk_ne ho h he (by rw [hgv]; exact e.symm))
  · exact h.grown hg (by simp)
theorem grew_below {a W w' : World} {base n B : Nat} {T : TypeId} {v v' x : Value} {xs : List Value} (hg : Grew W w' base T v v' n xs x) (ho : W.ownsRow base T 1 v n xs) (hb : Below B a W) (hB : B ≤ base) (hW : B ≤ W.heap.size) : Below B a w' := by
  rcases hg with ⟨g, c, hv, rfl, ho2, hg⟩ | ⟨ho2, hg⟩
  · have hgv : v.ownBlock = some g := by rw [hv]; rfl
    exact hb.grown hg hW (fun k hk => by have := (World.ownsRow.lt ho k (by rw [hgv]; exact hk)).1; omega)
  · exact hb.grown hg hW (fun k hk => by cases hk)
/-- A list of rows, each in a block of its own. -/
structure Rs (B : Nat) (W : World) (T TL : TypeId) (i : Nat) (v : Value) (ls : List Value) (m : Nat → Nat) : Prop where
  o : W.ownsRow B TL 1 v i ls
  r : ∀ q, q < i → ∃ l, W.ownsRow B T 1 (ls.getD q (.slice none 0 0)) (m q) l
  d : ∀ q, q < i → ∀ q', q' < i → q ≠ q' → Far (ls.getD q (.slice none 0 0)) (ls.getD q' (.slice none 0 0))
theorem Rs.call {B : Nat} {W W' : World} {T TL : TypeId} {i : Nat} {v : Value} {ls : List Value} {m : Nat → Nat} (h : Rs B W T TL i v ls m) (hb : Below W.heap.size W W') : Rs B W' T TL i v ls m :=
  ⟨row_low h.o (fun k hk => (World.ownsRow.lt h.o k hk).2) hb, fun q hq => by obtain ⟨l, hl⟩ := h.r q hq; exact ⟨l, row_low hl (fun k hk => (World.ownsRow.lt hl k hk).2) hb⟩, h.d⟩
/-- A row that a later call made lies apart from all. -/
theorem Rs.far {B : Nat} {W W' : World} {T TL : TypeId} {i n sz : Nat} {v x : Value} {ls ys : List Value} {m : Nat → Nat} {e : TypeId} (h : Rs B W T TL i v ls m) (hx : W'.ownsRow W.heap.size e sz x n ys) : ∀ q, q < i → Far (ls.getD q (.slice none 0 0)) x := fun q hq g h1 h2 => by
  obtain ⟨l, hl⟩ := h.r q hq
  have := (World.ownsRow.lt hl g h1).2
  have := (World.ownsRow.lt hx g h2).1
  omega
theorem Rs.other {B : Nat} {W W' : World} {T TL T' : TypeId} {i : Nat} {v : Value} {ls : List Value} {m : Nat → Nat} {base n : Nat} {u u' x : Value} {xs : List Value} (h : Rs B W T TL i v ls m) (hg : Grew W W' base T' u u' n xs x) (ho : W.ownsRow base T' 1 u n xs) (h1 : T ≠ T') (h2 : TL ≠ T') : Rs B W' T TL i v ls m :=
  ⟨grew_row hg ho h2 h.o, fun q hq => by obtain ⟨l, hl⟩ := h.r q hq; exact ⟨l, grew_row hg ho h1 hl⟩, h.d⟩
theorem Rs.push {B : Nat} {W W' : World} {T TL : TypeId} {i : Nat} {v v' x : Value} {ls l : List Value} {m : Nat → Nat} (h : Rs B W T TL i v ls m) (hg : Grew W W' B TL v v' i ls x) (hT : T ≠ TL) (hB : B ≤ W.heap.size) (hx : W.ownsRow B T 1 x (m i) l) (hf : ∀ q, q < i → Far (ls.getD q (.slice none 0 0)) x) : Rs B W' T TL (i + 1) v' (ls ++ [x]) m := by
  have hl : ls.length = i := by have := h.o.1; omega
  refine ⟨hg.row hB, fun q hq => ?_, fun q hq q' hq' e => ?_⟩
  · by_cases e : q = i
    · subst e; rw [getD_last _ _ _ _ hl]; exact ⟨l, grew_row hg h.o hT hx⟩
    · rw [getD_front _ _ _ _ (by omega)]
      obtain ⟨l', hl'⟩ := h.r q (by omega)
      exact ⟨l', grew_row hg h.o hT hl'⟩
  · by_cases e1 : q = i
    · subst e1
      rw [getD_last _ _ _ _ hl, getD_front _ _ _ _ (by omega)]
      exact (hf q' (by omega)).symm
    · by_cases e2 : q' = i
      · subst e2
        rw [getD_last _ _ _ _ hl, getD_front _ _ _ _ (by omega)]
        exact hf q (by omega)
      · rw [getD_front _ _ _ _ (by omega), getD_front _ _ _ _ (by omega)]
        exact h.d q (by omega) q' (by omega) e
theorem Rs.nil (B : Nat) (W : World) (T TL : TypeId) (m : Nat → Nat) : Rs B W T TL 0 (.slice none 0 0) [] m := ⟨World.ownsRow_nil _ _ _ _, fun q hq => absurd hq (by omega), fun q hq => absurd hq (by omega)⟩
theorem Rs.ap1 {B : Nat} {W : World} {T TL : TypeId} {i : Nat} {v : Value} {ls : List Value} {m : Nat → Nat} (h : Rs B W T TL i v ls m) (hB : B ≤ W.heap.size) (mk : Nat → Value) : Ap1 W W B T i (fun q => ls.getD q (.slice none 0 0)) m mk (fun _ => 0) :=
  ⟨fun q hq => by obtain ⟨l, hl⟩ := h.r q hq; exact ⟨l, hl, fun i hi => absurd hi (by omega)⟩, h.d, KeepT.refl _ _ _, hB⟩
theorem Rs.keep {B : Nat} {W W' : World} {T TL T' : TypeId} {i B' : Nat} {v : Value} {ls : List Value} {m : Nat → Nat} (h : Rs B W T TL i v ls m) (hk : KeepT T' B' W W') (h1 : T ≠ T') (h2 : TL ≠ T') : Rs B W' T TL i v ls m :=
  ⟨hk.row h2 h.o, fun q hq => by obtain ⟨l, hl⟩ := h.r q hq; exact ⟨l, hk.row h1 hl⟩, h.d⟩
end Go.Proofs.Ytaomecinemmdgaa

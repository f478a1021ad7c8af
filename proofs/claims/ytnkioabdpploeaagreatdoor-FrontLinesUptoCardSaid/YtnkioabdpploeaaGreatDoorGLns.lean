/-
  Several texts in one: WORDS on slices of texts: to be read (StrsAt), and rows that the call itself owns (OwnT). | THE PLAIN LAW of a text parted into lines. | CONTRACTS of package text: a text is parted, and parted into lines. | CONTRACTS of the document's answer for text: a text is parted into lines, and a number read.
-/
import Derived.Test.YtnkioabdpploeaaGreatDoorRows
import Derived.Laws.OwnMore
import Derived.StillTailTactics
import Derived.Deep.RegionHeld3
import Derived.Test.YtnkioabdpploeaaGreatDoorGBase
import Derived.Test.YtnkioabdpploeaaGreatDoorGDecs
set_option linter.unusedVariables false
set_option linter.unusedSimpArgs false
namespace Go.Proofs.YtnkioabdpploeaaGreatDoor
open Go.RowKit Go.Lib
/-- A slice of texts, to be read. -/
def StrsAt (w : World) (v : Value) (es : List ByteArray) : Prop :=
  ∃ A c, v = .slice A es.length c ∧ ∀ j (h : j < es.length), ∃ a, A = some a ∧ w.cell? (a.add j) = some (.string es[j])
theorem StrsAt.keep {w w' : World} {v : Value} {es : List ByteArray} (h : StrsAt w v es) (hk : ∀ p : Addr, p.block < w.heap.size → w'.cell? p = w.cell? p) : StrsAt w' v es := by
  obtain ⟨A, c, rfl, hc⟩ := h
  refine ⟨A, c, rfl, fun j hj => ?_⟩
  obtain ⟨a, rfl, h1⟩ := hc j hj
  exact ⟨a, rfl, (hk _ (World.block_lt_of_cell? w _ h1)).trans h1⟩
theorem StrsAt.below {w w' : World} {v : Value} {es : List ByteArray} (h : StrsAt w v es) (hb : Below w.heap.size w w') : StrsAt w' v es := h.keep fun p hp => hb.cell hp
theorem StrsAt.drew {w : World} {v : Value} {es : List ByteArray} (h : StrsAt w v es) : StrsAt w.drew v es := h
theorem StrsAt.alloc {w : World} {v : Value} {es : List ByteArray} (h : StrsAt w v es) (o : Obj) : StrsAt (w.alloc o) v es := h.keep fun p hp => World.cell?_alloc_lt w o p hp
/-- A row of texts that the call owns. -/
def OwnT (w : World) (base : Nat) (v : Value) (es : List ByteArray) : Prop := w.ownsRow base 9 1 v es.length (es.map Value.string)
theorem OwnT.nil (w : World) (base : Nat) : OwnT w base (.slice none 0 0) [] := World.ownsRow_nil w base _ _
theorem OwnT.form {w : World} {base : Nat} {v : Value} {es : List ByteArray} (h : OwnT w base v es) : (v = .slice none 0 0 ∧ es = []) ∨ ∃ g cap, v = .slice (some ⟨g, 0, none⟩) es.length cap ∧ base ≤ g ∧ g < w.heap.size ∧ es.length ≤ cap := by
  rcases h.2 with ⟨rfl, hn⟩ | ⟨g, cap, cur, rfl, hb, hg, hnc, _⟩
  · exact .inl ⟨rfl, List.eq_nil_of_length_eq_zero hn⟩
  · exact .inr ⟨g, cap, rfl, hb, (Array.getElem?_eq_some_iff.1 hg).1, hnc⟩
theorem OwnT.below {w w' : World} {base : Nat} {v : Value} {es : List ByteArray} (h : OwnT w base v es) (hb : Below w.heap.size w w') : OwnT w' base v es :=
  World.ownsRow.kept h (only_of_below hb none) (by cases hv : v.ownBlock <;> simp)
theorem OwnT.alloc {w : World} {base : Nat} {v : Value} {es : List ByteArray} (h : OwnT w base v es) (o : Obj) : OwnT (w.alloc o) base v es := World.ownsRow.alloc h o
theorem OwnT.drew {w : World} {base : Nat} {v : Value} {es : List ByteArray} (h : OwnT w base v es) : OwnT w.drew base v es := h
theorem OwnT.cell {w : World} {base g n cap : Nat} {es : List ByteArray} (h : OwnT w base (.slice (some ⟨g, 0, none⟩) n cap) es) (j : Nat) (hj : j < es.length) : w.cell? ⟨g, j, none⟩ = some (.string es[j]) := by
  have hn : n = es.length := by
    rcases h.form with ⟨hv, he⟩ | ⟨g', cap', hv, _⟩
    · cases hv
    · injection hv
  subst hn
  have := World.ownsRow.cellAt h j (by omega)
  rw [this]
  simp [hj]
theorem strInfo : (Tryz.prog.info? 9).map (fun i => (i.zero, i.size, i.bytes)) = some (some (.string ⟨#[]⟩), 1, 16) := by kernel_rfl
theorem StrsAt.reads {w : World} {A : Option Addr} {m c : Nat} {es : List ByteArray} (h : StrsAt w (.slice A m c) es) : m = es.length ∧ Reads w w.heap.size 1 A m (es.map Value.string) := by
  obtain ⟨A', c', hv, hc⟩ := h
  injection hv with e1 e2 e3
  subst e1 e2 e3
  refine ⟨rfl, by simp, fun h0 => ?_⟩
  obtain ⟨a, rfl, h1⟩ := hc 0 h0
  have hb := World.block_lt_of_cell? w _ h1
  rw [block_of_add] at hb
  refine ⟨a, rfl, hb, fun j u hu => ?_⟩
  rw [List.getElem?_map, Option.map_eq_some_iff] at hu
  obtain ⟨x, hx, rfl⟩ := hu
  obtain ⟨hj, rfl⟩ := List.getElem?_eq_some_iff.1 hx
  obtain ⟨a', ha, h2⟩ := hc j hj
  injection ha with ha
  subst ha
  exact h2
/-- append(v, x...) of texts. -/
theorem wpList_appT {ops : Array Oper} {rest : List Oper} {o : Oper} {a : Act} {Q : Exit → Act → World → Prop} (w : World) (hgd : o.guard = none) (s x : Operand)
    (ho : o.op = .call { callee := .builtin .append, args := #[s, x], argTypes := #[23, 23] })
    {base : Nat} {v : Value} {es : List ByteArray} (hown : OwnT w base v es) (hs : a.eval s = v) {A : Option Addr} {m c : Nat} {es2 : List ByteArray} (hr : StrsAt w (.slice A m c) es2) (hx : a.eval x = .slice A m c)
    (h47 : es.length + es2.length ≤ 4398046511104) (hbase : base ≤ w.heap.size)
    (h : ∀ v' w', OwnT w' base v' (es ++ es2) → w.grownBy w' v.ownBlock → (v'.ownBlock = v.ownBlock ∨ v'.ownBlock = some w.heap.size) → wpList Tryz.prog ops Q rest (a.put o.dst v') w') : wpList Tryz.prog ops Q (o :: rest) a w := by
  obtain ⟨i, hi, hz, hs1, hb1⟩ := info_parts strInfo
  obtain ⟨hm, hrd⟩ := hr.reads
  refine wpList_append_any (w := w) hgd s x 23 ho base 9 i (.string ⟨#[]⟩) 1 16 Tryz.underlying23 hi hz hs1 hb1 rfl (by decide) v es.length (es.map Value.string) hs hown w.heap.size A m c (es2.map Value.string) hx hrd ?_ ?_ ?_ hbase ?_
  · intro u hu
    obtain ⟨y, _, rfl⟩ := List.mem_map.1 hu
    rfl
  · simp only [maxLen]; omega
  · omega
  · intro v' w' h1 h2 h3
    refine h v' w' ?_ h2 h3
    unfold OwnT
    rw [List.map_append, List.length_append, ← hm]
    exact h1
/-- append(v, x), x one text in a new block of one cell. -/
theorem wpList_appT1 {ops : Array Oper} {rest : List Oper} {o : Oper} {a : Act} {Q : Exit → Act → World → Prop} (w : World) (hgd : o.guard = none) (s x : Operand)
    (ho : o.op = .call { callee := .builtin .append, args := #[s, x], argTypes := #[23, 23] })
    {base : Nat} {v : Value} {es : List ByteArray} (hown : OwnT w base v es) (hs : a.eval s = v) {st : ByteArray} (hx : a.eval x = .slice (some ⟨w.heap.size, 0, none⟩) 1 1)
    (h47 : es.length + 1 ≤ 4398046511104) (hbase : base ≤ w.heap.size)
    (h : ∀ v' w', OwnT w' base v' (es ++ [st]) → (w.alloc (.cells #[.string st] 9)).grownBy w' v.ownBlock → (v'.ownBlock = v.ownBlock ∨ v'.ownBlock = some (w.heap.size + 1)) → wpList Tryz.prog ops Q rest (a.put o.dst v') w') :
    wpList Tryz.prog ops Q (o :: rest) a (w.alloc (.cells #[.string st] 9)) := by
  refine wpList_appT _ hgd s x ho (hown.alloc _) hs (es2 := [st]) ⟨some ⟨w.heap.size, 0, none⟩, 1, rfl, fun j hj => ⟨_, rfl, ?_⟩⟩ hx (by simpa using h47) (by simp; omega) (fun v' w' h1 h2 h3 => h v' w' h1 h2 (by simpa using h3))
  obtain rfl : j = 0 := by simp at hj; exact hj
  have hadd : (⟨w.heap.size, 0, none⟩ : Addr).add 0 = ⟨w.heap.size, 0, none⟩ := by unfold Addr.add; simp
  rw [hadd, (Blk.new w 9 #[.string st]).cell 0]
  rfl
end Go.Proofs.YtnkioabdpploeaaGreatDoor

set_option linter.unusedVariables false
set_option linter.unusedSimpArgs false
namespace Go.Proofs.YtnkioabdpploeaaGreatDoor
open Go.RowKit
/-- A row parted at each c. -/
def splL (c : UInt8) : List UInt8 → List (List UInt8)
  | [] => [[]]
  | x :: r => if x = c then [] :: splL c r else match splL c r with
    | h :: t => (x :: h) :: t
    | [] => [[x]]
theorem splL_ne (c : UInt8) : ∀ l, splL c l ≠ []
  | [] => by simp [splL]
  | x :: r => by
    simp only [splL]
    split
    · simp
    · split <;> simp
theorem splL_free (c : UInt8) : ∀ a : List UInt8, c ∉ a → splL c a = [a]
  | [], _ => rfl
  | x :: r, h => by
    have h1 : ¬ x = c := fun e => h (by simp [e])
    have h2 : c ∉ r := fun e => h (by simp [e])
    simp only [splL, if_neg h1, splL_free c r h2]
theorem splL_at (c : UInt8) : ∀ a b : List UInt8, c ∉ a → splL c (a ++ c :: b) = a :: splL c b
  | [], b, _ => by simp [splL]
  | x :: r, b, h => by
    have h1 : ¬ x = c := fun e => h (by simp [e])
    have h2 : c ∉ r := fun e => h (by simp [e])
    simp only [List.cons_append, splL, if_neg h1, splL_at c r b h2]
/-- What lies between two places. -/
def segL (l : List UInt8) (a b : Nat) : List UInt8 := (l.drop a).take (b - a)
theorem splL_step (c : UInt8) (l : List UInt8) (a b : Nat) (hab : a ≤ b) (hb : b < l.length) (hc : l[b] = c) (hf : ∀ j (hj : j < l.length), a ≤ j → j < b → l[j] ≠ c) :
    splL c (l.drop a) = segL l a b :: splL c (l.drop (b + 1)) := by
  have e : l.drop a = segL l a b ++ c :: l.drop (b + 1) := by
    have h1 : l.drop a = (l.drop a).take (b - a) ++ (l.drop a).drop (b - a) := (List.take_append_drop _ _).symm
    rw [List.drop_drop, show a + (b - a) = b from by omega, List.drop_eq_getElem_cons hb, hc] at h1
    exact h1
  rw [e, splL_at]
  intro hm
  obtain ⟨j, hj, hx⟩ := List.mem_iff_getElem.1 hm
  unfold segL at hj hx
  rw [List.getElem_take, List.getElem_drop] at hx
  rw [List.length_take, List.length_drop] at hj
  exact hf (a + j) (by omega) (by omega) (by omega) hx
theorem splL_end (c : UInt8) (l : List UInt8) (a : Nat) (hf : ∀ j (hj : j < l.length), a ≤ j → l[j] ≠ c) : splL c (l.drop a) = [l.drop a] := by
  refine splL_free c _ fun hm => ?_
  obtain ⟨j, hj, hx⟩ := List.mem_iff_getElem.1 hm
  rw [List.getElem_drop] at hx
  rw [List.length_drop] at hj
  exact hf (a + j) (by omega) (by omega) hx
theorem splL_length (c : UInt8) : ∀ l : List UInt8, (splL c l).length ≤ l.length + 1
  | [] => by simp [splL]
  | x :: r => by
    have ih := splL_length c r
    simp only [splL]
    split
    · simp; omega
    · cases h : splL c r with
      | nil => simp
      | cons y t => rw [h] at ih; simp at ih ⊢; omega
theorem splL_join (c : UInt8) : ∀ l : List UInt8, (splL c l).flatMap (fun x => x ++ [c]) = l ++ [c]
  | [] => by simp [splL]
  | x :: r => by
    have ih := splL_join c r
    have hn := splL_ne c r
    simp only [splL]
    split
    · rename_i h; subst h; simp [ih]
    · cases h : splL c r with
      | nil => exact absurd h hn
      | cons y t => rw [h] at ih; simp at ih ⊢; exact ih
theorem splL_mem (c : UInt8) (l x : List UInt8) (h : x ∈ splL c l) : x.length ≤ l.length := by
  have hj := congrArg List.length (splL_join c l)
  obtain ⟨s, t, e⟩ := List.append_of_mem h
  rw [e] at hj
  simp at hj
  omega
def bsL (l : List UInt8) : ByteArray := ⟨l.toArray⟩
/-- The lines of a text; none: it does not end with a newline. -/
def linesV (s : ByteArray) : Option (List ByteArray) :=
  if s.size = 0 then some [] else if s.data.toList.getLast? = some 10 then some ((splL 10 s.data.toList.dropLast).map bsL) else none
end Go.Proofs.YtnkioabdpploeaaGreatDoor

set_option linter.unusedVariables false
set_option linter.unusedSimpArgs false
namespace Go.Proofs.YtnkioabdpploeaaGreatDoor
open Go.RowKit Go.Lib
theorem ext_seg (s : ByteArray) (a b : Nat) (hab : a ≤ b) (hb : b ≤ s.size) : s.extract a b = bsL (segL s.data.toList a b) := by
  apply ByteArray.ext
  apply Array.ext'
  rw [bytes_extract _ _ _ hb]
  rfl
set_option maxRecDepth 100000 in
set_option maxHeartbeats 1000000 in
theorem parted_any (s : ByteArray) (c : UInt8) (w : World) (hs : s.size ≤ 1099511627776) :
    Calls Tryz.prog 45 #[.string s, .int .u8 (c.toNat : Int)] w fun e w' => ∃ v, e = .returned v ∧ OwnT w' w.heap.size v ((splL c s.data.toList).map bsL) ∧ Below w.heap.size w w' := by
  have hll : s.data.toList.length = s.size := Array.length_toList
  have hcl := c.toNat_lt
  have hpl := splL_length c s.data.toList
  rw [hll] at hpl
  have HPL := hide hpl; clear hpl
  go_enter Tryz.func45, Tryz.ntmps45
  go_wp2_with fail
  go_loopw [5, 6, 7] (fun v f i wr => ∃ (from_ k : Nat) (out : List (List UInt8)), f = .int .i64 from_ ∧ i = .int .i64 k ∧ from_ ≤ k ∧ k ≤ s.size ∧ Hid (out ++ splL c (s.data.toList.drop from_) = splL c s.data.toList ∧ (∀ j (hj : j < s.data.toList.length), from_ ≤ j → j < k → s.data.toList[j] ≠ c)) ∧ OwnT wr w.heap.size v (out.map bsL) ∧ Below w.heap.size w wr) (fun _ _ i _ => s.size - (RowKit.intOf i).toNat)
  case atStart => exact ⟨0, 0, [], rfl, rfl, Nat.le_refl _, by omega, Lib.hid ⟨rfl, fun j _ h1 h2 => by omega⟩, OwnT.nil _ _, Below.refl _ _⟩
  case round =>
    obtain ⟨from_, k, out, rfl, rfl, hfk, hk, hI, hO, hb⟩ := hrel
    have hol : Hid (out.length + 1 ≤ s.size + 1) := by
      have h := congrArg List.length hI.out.1
      rw [List.length_append] at h
      have h2 := unhide HPL
      have h3 : 0 < (splL c (s.data.toList.drop from_)).length := List.length_pos_iff.2 (splL_ne c _)
      unfold Hid
      omega
    have HX := hide (And.intro hI (And.intro hO hb)); clear hI hO hb
    rcases Nat.lt_or_ge k s.size with hlt | hge
    · have hix : (s[k]'hlt).toNat < 256 := s[k].toNat_lt
      by_cases hc : s[k] = c
      · have hcc : ((s[k].toNat : Int) == (c.toNat : Int)) = true := by rw [hc]; simp
        have hsl1 : (from_ : Int) ≤ (k : Int) := by omega
        have hsl2 : (k : Int) ≤ (s.size : Int) := by omega
        have HC := Lib.hid hc; clear hc
        go_wp2_with (first | (at_builtin; refine wpList_appT1 wr rfl _ _ rfl (unhide HX).2.1 rfl rfl (by rw [List.length_map]; have := hol.out; omega) (unhide HX).2.2.size ?_; intro v1 w1 hO1 hg1 hat1; have H1 := hide (And.intro hO1 (And.intro hg1 hat1)); clear hO1 hg1 hat1))
        have hb1 : Below w.heap.size w w1 := ((unhide HX).2.2.alloc (unhide HX).2.2.size _).grown (unhide H1).2.1 (by have := (unhide HX).2.2.size; simp; omega) (fun q hq => (World.ownsRow.lt (unhide HX).2.1 _ hq).1)
        have hst := splL_step c s.data.toList from_ k hfk (by omega) HC.out (unhide HX).1.out.2
        have hseg := ext_seg s from_ k hfk hk
        go_roundw
        case rel =>
          refine ⟨k + 1, k + 1, out ++ [segL s.data.toList from_ k], by go_num, by go_num, Nat.le_refl _, by omega, Lib.hid ⟨?_, fun j _ h1 h2 => by omega⟩, ?_, hb1⟩
          · rw [List.append_assoc, List.singleton_append, ← hst]
            exact (unhide HX).1.out.1
          · rw [List.map_append, List.map_cons, List.map_nil, ← hseg]
            exact (unhide H1).1
        case measure => simp [RowKit.intOf]; omega
      · have hcc : ((s[k].toNat : Int) == (c.toNat : Int)) = false := by
          rw [beq_eq_false_iff_ne]
          exact fun e => hc (UInt8.toNat_inj.1 (by omega))
        go_wp2_with fail
        go_roundw
        case rel =>
          refine ⟨from_, k + 1, out, rfl, by go_num, by omega, by omega, Lib.hid ⟨(unhide HX).1.out.1, fun j hj h1 h2 => ?_⟩, (unhide HX).2.1, (unhide HX).2.2⟩
          rcases Nat.lt_succ_iff_lt_or_eq.1 h2 with h' | rfl
          · exact (unhide HX).1.out.2 j hj h1 h'
          · exact hc
        case measure => simp [RowKit.intOf]; omega
    · obtain rfl : k = s.size := by omega
      have hsl1 : (from_ : Int) ≤ (s.size : Int) := by omega
      go_wp2_with (first | (at_builtin; refine wpList_appT1 wr rfl _ _ rfl (unhide HX).2.1 rfl rfl (by rw [List.length_map]; have := hol.out; omega) (unhide HX).2.2.size ?_; intro v1 w1 hO1 hg1 hat1; have H1 := hide (And.intro hO1 (And.intro hg1 hat1)); clear hO1 hg1 hat1))
      have hb1 : Below w.heap.size w w1 := ((unhide HX).2.2.alloc (unhide HX).2.2.size _).grown (unhide H1).2.1 (by have := (unhide HX).2.2.size; simp; omega) (fun q hq => (World.ownsRow.lt (unhide HX).2.1 _ hq).1)
      have hseg := ext_seg s from_ s.size hfk (Nat.le_refl _)
      have hend := splL_end c s.data.toList from_ (fun j hj h1 => (unhide HX).1.out.2 j hj h1 (by omega))
      go_ret
      refine ⟨_, rfl, ?_, hb1⟩
      have h := (unhide HX).1.out.1
      rw [hend] at h
      rw [← h, List.map_append, List.map_cons, List.map_nil]
      have hsl : segL s.data.toList from_ s.size = s.data.toList.drop from_ := List.take_of_length_le (by rw [List.length_drop]; omega)
      rw [← hsl, ← hseg]
      exact (unhide H1).1
/-- What Lines answers. -/
def LinesA (base : Nat) (s : ByteArray) (v : Value) (w : World) : Prop := match linesV s with
  | some es => ∃ u, v = .tuple #[u, .int .i64 0] ∧ OwnT w base u es
  | none => v = .tuple #[.slice none 0 0, .int .i64 43]
theorem LinesA.some {base : Nat} {s : ByteArray} {v : Value} {w : World} {es : List ByteArray} (h : linesV s = some es) (u : Value) (hv : v = .tuple #[u, .int .i64 0]) (hO : OwnT w base u es) : LinesA base s v w := by
  unfold LinesA; rw [h]; exact ⟨u, hv, hO⟩
theorem LinesA.none {base : Nat} {s : ByteArray} {v : Value} {w : World} (h : linesV s = none) (hv : v = .tuple #[.slice none 0 0, .int .i64 43]) : LinesA base s v w := by
  unfold LinesA; rw [h]; exact hv
end Go.Proofs.YtnkioabdpploeaaGreatDoor

set_option linter.unusedVariables false
set_option linter.unusedSimpArgs false
namespace Go.Proofs.YtnkioabdpploeaaGreatDoor
open Go.RowKit Go.Lib
end Go.Proofs.YtnkioabdpploeaaGreatDoor

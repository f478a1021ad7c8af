/-
  CONTRACTS for NoteFresh: note.Open, note.Parse and the document's, as what they answer hangs on the arguments alone; alike.
-/
import Derived.Test.YtphoflcilpopgaaGreatDoorRows
import Derived.Test.YtphoflcilpopgaaGreatDoorGBase
import Derived.Test.YtphoflcilpopgaaGreatDoorGOp
import Derived.Test.YtphoflcilpopgaaGreatDoorSROpen
import Derived.Test.YtphoflcilpopgaaGreatDoorGKs
import Derived.Test.YtphoflcilpopgaaGreatDoorGTx
import Derived.Test.YtphoflcilpopgaaGreatDoorGLay
import Derived.Test.YtphoflcilpopgaaGreatDoorSMaxIs
import Derived.Test.YtphoflcilpopgaaGreatDoorSParse
import Derived.Test.YtphoflcilpopgaaGreatDoorSRParse
import Derived.Test.YtphoflcilpopgaaGreatDoorSFreshP
set_option linter.unusedVariables false
set_option linter.unusedSimpArgs false
namespace Go.Proofs.YtphoflcilpopgaaGreatDoor
open Go.RowKit Go.Lib
/-- What the law needs of the world's variables. -/
def LT (w : World) : Prop := PTab w ∧ RTab w ∧ Lib.Utf8Tabs 5 6 w ∧ MaxOk w
theorem LT.next {w W : World} (h : LT w) (hb : Below w.heap.size w W) : LT W := ⟨h.1.next hb, h.2.1.next hb, Tabs.below h.2.2.1 hb (Tabs.lt3 h.2.2.1) (Tabs.lt4 h.2.2.1), h.2.2.2.below hb h.2.2.2.lt⟩
/-- The answer of Open, in cells. -/
def OpA (W : World) (B : Nat) (t : ByteArray) (g r : List SigR) (z : Nat) (e : Ending) : Prop := ∃ A1 c1 A2 c2, e = .returned (.tuple #[.agg #[.string t, .slice A1 g.length c1, .slice A2 r.length c2], .int .i64 (z : Int)]) ∧ OwnG W B (.slice A1 g.length c1) g ∧ OwnG W B (.slice A2 r.length c2) r ∧ (∀ k, (Value.slice A1 g.length c1).ownBlock = some k → (Value.slice A2 r.length c2).ownBlock ≠ some k)
/-- The answer of Parse, in cells. -/
def CpA (W : World) (B : Nat) (o r : ByteArray) (n : Int) (es : List ByteArray) (z : Nat) (e : Ending) : Prop := ∃ A c, e = .returned (.tuple #[.agg #[.string o, .int .i64 n, .string r, .slice A es.length c], .int .i64 (z : Int)]) ∧ OwnT W B (.slice A es.length c) es
theorem open_unif (note : ByteArray) (ks : List KeyR) (v : Value) (hs : note.size ≤ 1048576) (hks : ∀ k ∈ ks, k.nm.size ≤ 1048576 ∧ k.sc.size ≤ 1048576) (hn : ks.length ≤ 1048576) : ∃ (t : ByteArray) (g r : List SigR) (z : Nat), g.length + r.length ≤ 16 ∧ z < 1000 ∧
    (∀ w, KeysAt w v ks → LT w → Calls Tryz.prog 6 #[.string note, v] w fun e w' => OpA w' w.heap.size t g r z e ∧ Below w.heap.size w w') ∧
    (∀ w, KeysAt w v ks → LT w → Calls Tryz.prog 4 #[.string note, v] w fun e w' => OpA w' w.heap.size t g r z e ∧ Below w.heap.size w w') := by
  have hl := openX_len note ks
  refine ⟨(openX note ks).1, (openX note ks).2.1, (openX note ks).2.2.1, (openX note ks).2.2.2, hl.1, hl.2, fun w hV hT => ?_, fun w hV hT => ?_⟩
  · refine (open_any note v ks w (by omega) (fun k hk => by have := hks k hk; omega) (by omega) hV hT.1 hT.2.2.1 hT.2.2.2).mono ?_
    rintro e w' ⟨h, hb⟩
    obtain ⟨vg, vr, h1, h2, h3, h4⟩ := h.parts
    obtain ⟨A1, c1, rfl⟩ := h2.slice
    obtain ⟨A2, c2, rfl⟩ := h3.slice
    exact ⟨⟨A1, c1, A2, c2, h1, h2, h3, h4⟩, hb⟩
  · refine (ropen_any note v ks w (by omega) (fun k hk => by have := hks k hk; omega) (by omega) hV hT.2.1).mono ?_
    rintro e w' ⟨h, hb⟩
    obtain ⟨vg, vr, h1, h2, h3, h4⟩ := h.parts
    obtain ⟨A1, c1, rfl⟩ := h2.slice
    obtain ⟨A2, c2, rfl⟩ := h3.slice
    exact ⟨⟨A1, c1, A2, c2, h1, h2, h3, h4⟩, hb⟩
theorem parse_unif (s : ByteArray) (hs : s.size ≤ 1048576) : ∃ (o r : ByteArray) (n : Int) (es : List ByteArray) (z : Nat), es.length ≤ 1099511627776 ∧ z < 1000 ∧
    (∀ w, LT w → Calls Tryz.prog 7 #[.string s] w fun e w' => CpA w' w.heap.size o r n es z e ∧ Below w.heap.size w w') ∧
    (∀ w, Calls Tryz.prog 5 #[.string s] w fun e w' => CpA w' w.heap.size o r n es z e ∧ Below w.heap.size w w') := by
  have key : ∃ (o r : ByteArray) (n : Int) (es : List ByteArray) (z : Nat), es.length ≤ 1099511627776 ∧ z < 1000 ∧ ∀ (B : Nat) (W : World) (u : Value) (z' : Nat), ParseA B s u z' W → CpA W B o r n es z (.returned (.tuple #[u, .int .i64 (z' : Int)])) := by
    by_cases hq : ∃ q, ParseR s q
    · obtain ⟨q, hq⟩ := hq
      have hlen : q.es.length ≤ 1099511627776 := by
        obtain ⟨d, r, h1, -⟩ := hq
        have h2 := linesV_len h1
        rw [linesL_cons, linesL_cons, linesL_cons] at h2
        have := linesL_ge q.es
        omega
      refine ⟨q.o, q.r, q.n, q.es, 0, hlen, by decide, ?_⟩
      rintro B W u z' (⟨q', hq', rfl, v', rfl, hO'⟩ | ⟨hno, -⟩)
      · obtain rfl := ParseR.one hq hq'
        obtain ⟨A, c, rfl⟩ := hO'.slice
        exact ⟨A, c, rfl, hO'⟩
      · exact absurd hq (hno q)
    · refine ⟨⟨#[]⟩, ⟨#[]⟩, 0, [], 204, by simp, by decide, ?_⟩
      rintro B W u z' (⟨q', hq', -⟩ | ⟨-, rfl, rfl⟩)
      · exact absurd ⟨q', hq'⟩ hq
      · exact ⟨none, 0, rfl, OwnT.nil _ _⟩
  obtain ⟨o, r, n, es, z, h1, h2, hall⟩ := key
  refine ⟨o, r, n, es, z, h1, h2, fun w hT => ?_, fun w => ?_⟩
  · refine (parse_any s w (by omega) hT.2.2.1).mono ?_
    rintro e w' ⟨u, z', rfl, hA, hb⟩
    exact ⟨hall _ _ _ _ hA, hb⟩
  · refine (rparse_any s w (by omega)).mono ?_
    rintro e w' ⟨u, z', rfl, hA, hb⟩
    exact ⟨hall _ _ _ _ hA, hb⟩
set_option maxRecDepth 100000 in
set_option maxHeartbeats 1000000 in
theorem alikeF_any (o r : ByteArray) (n : Int) (a b : Value) (es : List ByteArray) (w : World) (hn : es.length ≤ 1099511627776) (ha : StrsAt w a es) (hb : StrsAt w b es) :
    Calls Tryz.prog 11 #[.agg #[.string o, .int .i64 n, .string r, a], .agg #[.string o, .int .i64 n, .string r, b]] w fun e w' => e = .returned (.bool true) ∧ Below w.heap.size w w' := by
  obtain ⟨A, c, rfl, -⟩ := id ha
  obtain ⟨B, d, rfl, -⟩ := id hb
  have HA := hide ha; have HB := hide hb; clear ha hb
  go_enter Tryz.func11, Tryz.ntmps11
  go_wp2_with fail
  have hb0 : Below w.heap.size w ((w.alloc (.cells #[.string o, .int .i64 n, .string r, .slice A es.length c] 30)).alloc (.cells #[.string o, .int .i64 n, .string r, .slice B es.length d] 30)) := ((Below.refl _ _).alloc (Nat.le_refl _) _).alloc (by simp) _
  refine (texts_eq _ _ es _ hn (((unhide HA).alloc _).alloc _) (((unhide HB).alloc _).alloc _)).mono ?_
  rintro e w1 ⟨rfl, nd, rfl⟩
  go_wp2_with fail
  go_ret
  exact ⟨rfl, below_drewN hb0 nd⟩
/-- An opened note that is held in a box. -/
def HdO (W : World) (m B : Nat) (t : ByteArray) (g r : List SigR) (A1 A2 : Option Addr) (c1 c2 : Nat) : Prop := Blk W m 25 #[.string t, .slice A1 g.length c1, .slice A2 r.length c2] ∧ OwnG W B (.slice A1 g.length c1) g ∧ OwnG W B (.slice A2 r.length c2) r
theorem HdO.low {W W' : World} {m B : Nat} {t : ByteArray} {g r : List SigR} {A1 A2 : Option Addr} {c1 c2 : Nat} (h : HdO W m B t g r A1 A2 c1 c2) (hb : Below W.heap.size W W') : HdO W' m B t g r A1 A2 c1 c2 := ⟨h.1.below hb h.1.lt, h.2.1.below hb, h.2.2.below hb⟩
theorem HdO.new {W : World} {B : Nat} {t : ByteArray} {g r : List SigR} {A1 A2 : Option Addr} {c1 c2 : Nat} (h1 : OwnG W B (.slice A1 g.length c1) g) (h2 : OwnG W B (.slice A2 r.length c2) r) : HdO (W.alloc (.cells #[.string t, .slice A1 g.length c1, .slice A2 r.length c2] 25)) W.heap.size B t g r A1 A2 c1 c2 := ⟨Blk.new _ _ _, h1.alloc _, h2.alloc _⟩
/-- A checkpoint that is held in a box. -/
def HdC (W : World) (m B : Nat) (o r : ByteArray) (n : Int) (es : List ByteArray) (A : Option Addr) (c : Nat) : Prop := Blk W m 30 #[.string o, .int .i64 n, .string r, .slice A es.length c] ∧ OwnT W B (.slice A es.length c) es
theorem HdC.low {W W' : World} {m B : Nat} {o r : ByteArray} {n : Int} {es : List ByteArray} {A : Option Addr} {c : Nat} (h : HdC W m B o r n es A c) (hb : Below W.heap.size W W') : HdC W' m B o r n es A c := ⟨h.1.below hb h.1.lt, h.2.below hb⟩
theorem HdC.new {W : World} {B : Nat} {o r : ByteArray} {n : Int} {es : List ByteArray} {A : Option Addr} {c : Nat} (h : OwnT W B (.slice A es.length c) es) : HdC (W.alloc (.cells #[.string o, .int .i64 n, .string r, .slice A es.length c] 30)) W.heap.size B o r n es A c := ⟨Blk.new _ _ _, h.alloc _⟩
end Go.Proofs.YtphoflcilpopgaaGreatDoor

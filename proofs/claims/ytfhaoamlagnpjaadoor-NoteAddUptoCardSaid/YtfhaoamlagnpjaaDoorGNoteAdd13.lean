/-
  Several texts in one: CONTRACT of note.read: a note is taken apart. | CONTRACTS of the document's answer for text: base64 is read.
-/
import Derived.Test.YtfhaoamlagnpjaaDoorRows
import Derived.Deep.DeepMust
import Derived.StillTailTactics
import Derived.Deep.RegionHeld3
import Derived.Deep.QuietTactic
import Derived.BigQuiet
import Derived.Test.YtfhaoamlagnpjaaDoorGNoteAdd1
import Derived.Test.YtfhaoamlagnpjaaDoorGNoteAdd7
import Derived.Test.YtfhaoamlagnpjaaDoorGNoteAdd9
import Derived.Test.YtfhaoamlagnpjaaDoorGNoteAdd3
import Derived.Test.YtfhaoamlagnpjaaDoorGNoteAdd11
import Derived.Test.YtfhaoamlagnpjaaDoorGNoteAdd12
set_option linter.unusedVariables false
set_option linter.unusedSimpArgs false
namespace Go.Proofs.YtfhaoamlagnpjaaDoor
open Go.RowKit Go.Lib
attribute [local go_sem] Oper.semAt_some
theorem fromEnd_any (s : ByteArray) (w : World) :
    Calls Tryd.prog 92 #[.string s] w fun e w' => e = .returned (.func (.func 109) #[] #[.pointer (some ⟨w.heap.size, 0, none⟩)]) ∧ w.alloc (.cells #[.string s] 9) = w' := by
  go_enter Tryd.func92, Tryd.ntmps92
  go_wp2_with fail
  go_ret
  exact ⟨rfl, rfl⟩
theorem empty_of {s : ByteArray} (h : s.size = 0) : s.toList.isEmpty = true := by
  have h2 : s.data.toList.length = 0 := by rw [Array.length_toList]; exact h
  rw [ByteArray.toList_eq, List.eq_nil_of_length_eq_zero h2]; rfl
theorem empty_no {s : ByteArray} (h : 0 < s.size) : s.toList.isEmpty = false := by
  have h2 : s.data.toList.length = s.size := Array.length_toList
  rw [ByteArray.toList_eq]
  cases hx : s.data.toList with
  | nil => rw [hx] at h2; simp at h2; omega
  | cons a r => rfl
theorem fromEndF_mem : ∀ (f : Nat) (s : ByteArray) (x : Nat × ByteArray), x ∈ fromEndF f s → x.1 ≤ s.size ∧ x.2.size ≤ s.size
  | 0, s, x, h => by simp [fromEndF] at h
  | f + 1, s, x, h => by
    rw [fromEndF] at h
    split at h
    · simp at h
    · rename_i h0
      have ha := (atOf_int s (Nat.pos_of_ne_zero h0)).2
      rcases List.mem_cons.1 h with rfl | h
      · refine ⟨by simp only; omega, ?_⟩
        simp only [ByteArray.size_extract]; omega
      · have h1 := fromEndF_mem f _ x h
        have h2 : (s.extract 0 (atOf s)).size = atOf s := by rw [ByteArray.size_extract]; omega
        omega
theorem fromEndL_mem {s : ByteArray} {x : Nat × ByteArray} (h : x ∈ fromEndL s) : x.1 ≤ s.size ∧ x.2.size ≤ s.size := fromEndF_mem _ _ _ h
/-- What read answers. -/
def ReadR (N : Nat) (note : ByteArray) (e : Ending) (w' : World) : Prop :=
  (65536 < note.size ∧ e = .returned (.tuple #[.string ⟨#[]⟩, .slice none 0 0, .int .i64 121])) ∨
  (note.size ≤ 65536 ∧ readV note = none ∧ e = .returned (.tuple #[.string ⟨#[]⟩, .slice none 0 0, .int .i64 200])) ∨
  (note.size ≤ 65536 ∧ ∃ t S v, readV note = some (t, S) ∧ e = .returned (.tuple #[.string t, v, .int .i64 0]) ∧ OwnG w' N v S)
/-- Between two rounds. -/
def RdI (w : World) (note : ByteArray) (pre : List (Nat × ByteArray)) (W : World) : Prop :=
  ∃ (acc : List SigR) (v : Value), RdB w W w.heap.size note ⟨#[]⟩ (.slice none 0 0) (.int .i64 0) ⟨#[]⟩ v acc ∧ w.heap.size + 6 < W.heap.size ∧ acc.length ≤ 16 ∧ ∀ rest, pre ++ rest = fromEndL note → rdGo note (fromEndL note) [] = rdGo note rest acc
/-- Behind a jump. -/
def RdX (w : World) (note : ByteArray) (c : Code) (pre : List (Nat × ByteArray)) (W : World) : Prop :=
  match c with
  | .ret => ∃ (acc : List SigR) (v : Value), RdB w W w.heap.size note ⟨#[]⟩ (.slice none 0 0) (.int .i64 200) ⟨#[]⟩ v acc ∧ rdGo note (fromEndL note) [] = none
  | .exit id => id = 0 ∧ ∃ (acc : List SigR) (v : Value) (a : Nat), a ≤ note.size ∧ RdB w W w.heap.size note ⟨#[]⟩ (.slice none 0 0) (.int .i64 0) (note.extract 0 a) v acc ∧ acc.length ≤ 16 ∧
      rdGo note (fromEndL note) [] = if goesV (note.extract 0 a) = true ∧ acc.length ≠ 0 then some (note.extract 0 a, acc.reverse) else none
  | _ => False
theorem RdI.mild (w : World) (note : ByteArray) (n : Nat) (hn : w.heap.size ≤ n) : Mild (w.heap.size + 6) n (RdI w note) := by
  rintro s W W' row ⟨acc, v, h1, h0, h2, h3⟩ hg hr
  exact ⟨acc, v, h1.mild hn hg hr, Nat.lt_of_lt_of_le h0 hg.size, h2, h3⟩
theorem RdX.mild (w : World) (note : ByteArray) (n : Nat) (hn : w.heap.size ≤ n) (c : Code) : Mild (w.heap.size + 6) n (RdX w note c) := by
  intro s W W' row h hg hr
  unfold RdX at h ⊢
  cases c with
  | ret =>
    obtain ⟨acc, v, h1, h2⟩ := h
    exact ⟨acc, v, h1.mild hn hg hr, h2⟩
  | exit id =>
    obtain ⟨h0, acc, v, a, ha, h1, h2, h3⟩ := h
    exact ⟨h0, acc, v, a, ha, h1.mild hn hg hr, h2, h3⟩
  | _ => exact h.elim
set_option maxRecDepth 100000 in
set_option maxHeartbeats 4000000 in
theorem read_main (note : ByteArray) (w : World) (h6 : note.size ≤ 65536) (hnl : note.data.toList.getLast? = some 10) (hM : MaxOk w) (hT : Lib.Utf8Tabs 3 4 w) :
    Calls Tryd.prog 66 #[.string note] w fun e w' => ReadR w.heap.size note e w' ∧ Below w.heap.size w w' := by
  refine calls_of_wp_marks 3 Tryd.func66 rfl ?_
  simp only [Tryd.ntmps66, List.size_toArray, List.length_cons, List.length_nil, Nat.reduceAdd, Nat.reduceSub, Array.replicate_succ, Array.replicate_zero, List.push_toArray, List.append_toArray, List.nil_append, List.cons_append]
  have i6 : ¬ (65536 : Int) < (note.size : Int) := by omega
  have hx : Hid (Lib.hasSuffix note.data.toList [10] = true) := by rw [Hid, hasSuffix_nl, decide_eq_true hnl]
  have HM := hide hM; have HT := hide hT; have HNL := hide hnl; clear hM hT hnl
  have hsu := fun W => Tryd.strings_HasSuffix note ⟨#[10]⟩ W (by omega)
  have hfe := fun W => fromEnd_any note W
  have HSU := hide hsu; have HFE := hide hfe; clear hsu hfe
  go_wp2_with fail
  refine ((unhide HSU) _).mono ?_
  rintro e w1 ⟨rfl, rfl⟩
  rw [hx.out]
  go_wp2_with fail
  refine ((unhide HFE) _).mono ?_
  rintro e w2 ⟨rfl, hw2⟩
  have hst : RdB w w2 w.heap.size note ⟨#[]⟩ (.slice none 0 0) (.int .i64 0) ⟨#[]⟩ (.slice none 0 0) [] := by
    rw [← hw2]
    exact ⟨((((((Blk.new_ (by simp) _ _).alloc _).alloc _).alloc _).alloc _).alloc _).alloc _, (((((Blk.new_ (by simp) _ _).alloc _).alloc _).alloc _).alloc _).alloc _, ((((Blk.new_ (by simp) _ _).alloc _).alloc _).alloc _).alloc _,
      (((Blk.new_ (by simp) _ _).alloc _).alloc _).alloc _, ((Blk.new_ (by simp) _ _).alloc _).alloc _, (Blk.new_ (by simp) _ _).alloc _, OwnG.nil _ _,
      (((((((Below.refl _ _).alloc (Nat.le_refl _) _).alloc (by simp) _).alloc (by simp; omega) _).alloc (by simp; omega) _).alloc (by simp; omega) _).alloc (by simp; omega) _).alloc (by simp; omega) _⟩
  have hB6 : Blk w2 (w.heap.size + 6) 9 #[.string note] := by
    rw [← hw2]
    exact Blk.new_ (by simp) _ _
  have hsz : w2.heap.size = w.heap.size + 7 := by rw [← hw2]; simp
  have HST := hide (And.intro hst (And.intro hB6 hsz)); clear hst hB6 hsz hw2
  go_wp2_with fail
  simp only [Nat.add_assoc, Nat.reduceAdd]
  refine wp_range_cell 3 (by omega) (gf := 109) (lb := #[.pointer (some ⟨w.heap.size + 6, 0, none⟩)]) rfl (enters_of Tryd.func109 (by kernel_rfl) rfl) (B := w.heap.size + 6) (unhide HST).2.1.lt
    (fromEnd_cell 2 (by omega) (w.heap.size + 6) note w2 (by omega) (unhide HST).2.1) (fun x => rfl) (RdI w note) (RdX w note) (RdI.mild w note _ (by have := (unhide HST).2.2; omega)) (RdX.mild w note _ (by have := (unhide HST).2.2; omega))
    ⟨[], _, (unhide HST).1, by have := (unhide HST).2.2; omega, by simp, fun rest h => by rw [List.nil_append] at h; rw [h]⟩ ?a1 ?assign ?body ?done ?stop
  case assign =>
    intro l x W K hK
    dsimp only [encLine]
    gi_wp2
    exact hK
  case body =>
    rintro l pre ⟨at_, line⟩ W ⟨acc, v, hB, hWz, hl, hI⟩ hpre
    obtain ⟨A, cp, rfl⟩ := hB.own.slice
    obtain ⟨b0, b1, b2, b3, b4, b5, hO, hb⟩ := id hB
    have c0 := b0.cell 0; have c1 := b1.cell 0; have c2 := b2.cell 0; have c3 := b3.cell 0; have c4 := b4.cell 0; have c5 := b5.cell 0
    have f0 := b0.frozen 0; have f1 := b1.frozen 0; have f2 := b2.frozen 0; have f3 := b3.frozen 0; have f4 := b4.frozen 0; have f5 := b5.frozen 0
    simp only [List.getElem?_toArray, List.getElem?_cons_zero] at c0 c1 c2 c3 c4 c5
    have HX := hide (And.intro hB hI); clear hB hI b0 b1 b2 b3 b4 b5 hO hb
    dsimp only
    have hmem := fromEndL_mem (hpre.subset (List.mem_append_right pre (List.mem_singleton.2 rfl)))
    obtain ⟨hat, hls⟩ : at_ ≤ note.size ∧ line.size ≤ note.size := hmem
    obtain ⟨rest, hrest⟩ := hpre
    have hgo := Lib.hid ((unhide HX).2 ((at_, line) :: rest) (by rw [← hrest]; simp))
    have HR := hide hrest; clear hrest
    rcases Nat.eq_zero_or_pos line.size with hz | hz
    · have hie := empty_of hz
      have hres : Hid (rdGo note (fromEndL note) [] = if goesV (note.extract 0 at_) = true ∧ acc.length ≠ 0 then some (note.extract 0 at_, acc.reverse) else none) := by rw [Hid, hgo.out, rdGo, if_pos hz]
      gi_wp2_with fail
      refine ⟨?_, ?_⟩
      · exact KeepsOthers.setCell _ _ _
      · exact ⟨rfl, acc, _, at_, hat, (unhide HX).1.text _, hl, hres.out⟩
    · have hie := empty_no hz
      have hsg := fun W (h : MaxOk W) => signed_any line W (by omega) h
      have HSG := hide hsg; clear hsg
      have hMW : MaxOk W := (unhide HM).below (unhide HX).1.below (unhide HM).lt
      have HMW := hide hMW; clear hMW
      cases hsp : sigP line with
      | none =>
        have hres : Hid (rdGo note (fromEndL note) [] = none) := by rw [Hid, hgo.out, rdGo, if_neg (by omega), hsp]
        rw [sigA_none hsp] at HSG
        unfold sigV noSig at HSG
        dsimp only at HSG
        clear hsp hgo
        gi_wp2_with fail
        refine ⟨trivial, (CallsIn.inRound l (callsIn_wide.2 ((unhide HSG) W (unhide HMW)))).mono ?_⟩
        rintro e w3 ⟨rfl, hb3⟩
        have hb4 : Below W.heap.size W (w3.alloc (.cells #[.string ⟨#[]⟩, .string ⟨#[]⟩, .string ⟨#[]⟩] 71)) := hb3.alloc hb3.size _
        have hB4 := (unhide HX).1.next hb4
        have H4 := hide (And.intro hb4 hB4); clear hb4 hB4 hb3
        clear c0 c1 c2 c3 c4 c5 f0 f1 f2 f3 f4 f5
        gi_wp2_with fail
        refine ⟨trivial, ?_⟩
        generalize w3.heap.size = g9 at *
        generalize (w3.alloc (.cells #[.string ⟨#[]⟩, .string ⟨#[]⟩, .string ⟨#[]⟩] 71)) = w4 at *
        obtain ⟨b0, b1, b2, b3, b4, b5, hO, hb⟩ := id (unhide H4).2
        have c0 := b0.cell 0; have c1 := b1.cell 0; have c2 := b2.cell 0; have c3 := b3.cell 0; have c4 := b4.cell 0; have c5 := b5.cell 0
        have f0 := b0.frozen 0; have f1 := b1.frozen 0; have f2 := b2.frozen 0; have f3 := b3.frozen 0; have f4 := b4.frozen 0; have f5 := b5.frozen 0
        simp only [List.getElem?_toArray, List.getElem?_cons_zero] at c0 c1 c2 c3 c4 c5
        clear b0 b1 b2 b3 b4 b5 hO hb
        gi_wp2_with fail
        refine ⟨?_, ?_⟩
        · exact (keeps_next (unhide H4).1).trans (keeps_res _ w.heap.size _ _ _)
        · exact ⟨acc, _, (unhide H4).2.res _ _ _, hres.out⟩
      | some x =>
        have hgo2 : Hid (rdGo note (fromEndL note) [] = if amongV acc x = true ∨ acc.length = 16 then none else rdGo note rest (acc ++ [x])) := by rw [Hid, hgo.out, rdGo, if_neg (by omega), hsp]
        rw [sigA_some hsp] at HSG
        obtain ⟨xn, xi, xm⟩ := x
        unfold sigV at HSG
        dsimp only at HSG
        clear hsp hgo
        gi_wp2_with fail
        refine ⟨trivial, (CallsIn.inRound l (callsIn_wide.2 ((unhide HSG) W (unhide HMW)))).mono ?_⟩
        rintro e w3 ⟨rfl, hb3⟩
        have hb4 : Below W.heap.size W (w3.alloc (.cells #[.string xn, .string xi, .string xm] 71)) := hb3.alloc hb3.size _
        have hN4 : Blk (w3.alloc (.cells #[.string xn, .string xi, .string xm] 71)) w3.heap.size 71 #[.string xn, .string xi, .string xm] := Blk.new _ _ _
        have hB4 := (unhide HX).1.next hb4
        have hlt : w.heap.size + 5 < w3.heap.size := by have := (unhide HX).1.b5.lt; have := hb3.size; omega
        have HN4 := hide hN4
        have H4 := hide (And.intro hb4 (And.intro hB4 hlt)); clear hb4 hB4 hb3 hN4
        have c5' : w3.cell? ⟨w.heap.size + 5, 0, none⟩ = some (.slice A acc.length cp) := by
          have h5 := (unhide H4).2.1.b5.cell 0
          rw [World.cell?_alloc_lt _ _ _ (unhide H4).2.2] at h5
          exact h5
        have ham := fun W (h : OwnG W (w.heap.size + 7) (.slice A acc.length cp) acc) => among_any (.slice A acc.length cp) acc ⟨xn, xi, xm⟩ (w.heap.size + 7) W (by omega) h
        unfold sigV at ham
        have HAM := hide ham; clear ham
        clear c0 c1 c2 c3 c4 c5 f0 f1 f2 f3 f4 f5
        gi_wp2_with fail
        clear c5'
        generalize w3.heap.size = g9 at *
        generalize (w3.alloc (.cells #[.string xn, .string xi, .string xm] 71)) = w4 at *
        refine ⟨trivial, (CallsIn.inRound l (callsIn_wide.2 ((unhide HAM) w4 (unhide H4).2.1.own))).mono ?_⟩
        rintro e w5 ⟨rfl, hb5⟩
        have hb5' := (unhide H4).1.trans (hb5.mono (unhide H4).1.size)
        have hB5 := (unhide H4).2.1.next hb5
        have hN5 := (unhide HN4).below hb5 (unhide HN4).lt
        have k0 := hN5.cell 0; have k1 := hN5.cell 1; have k2 := hN5.cell 2
        simp only [List.getElem?_toArray, List.getElem?_cons_zero, List.getElem?_cons_succ] at k0 k1 k2
        have hs5 : w.heap.size + 7 ≤ w5.heap.size := by have h1 := hN5.lt; have h2 := (unhide H4).2.2; omega
        have H5 := hide (And.intro hb5' hB5); clear hb5 hb5' hB5 hN5 HN4 H4
        obtain ⟨b0, b1, b2, b3, b4, b5, hO, hb⟩ := id (unhide H5).2
        have c0 := b0.cell 0; have c1 := b1.cell 0; have c2 := b2.cell 0; have c3 := b3.cell 0; have c4 := b4.cell 0; have c5 := b5.cell 0
        have f0 := b0.frozen 0; have f1 := b1.frozen 0; have f2 := b2.frozen 0; have f3 := b3.frozen 0; have f4 := b4.frozen 0; have f5 := b5.frozen 0
        simp only [List.getElem?_toArray, List.getElem?_cons_zero] at c0 c1 c2 c3 c4 c5
        clear b0 b1 b2 b3 b4 b5 hO hb
        by_cases ham : amongV acc ⟨xn, xi, xm⟩ = true
        · have hres : Hid (rdGo note (fromEndL note) [] = none) := by rw [Hid, hgo2.out, if_pos (.inl ham)]
          rw [ham]
          clear ham hgo2
          gi_wp2_with fail
          refine ⟨?_, ?_⟩
          · exact (keeps_next (unhide H5).1).trans (keeps_res _ w.heap.size _ _ _)
          · exact ⟨acc, _, (unhide H5).2.res _ _ _, hres.out⟩
        · have ham' : amongV acc ⟨xn, xi, xm⟩ = false := by simpa using ham
          by_cases h16 : acc.length = 16
          · have hres : Hid (rdGo note (fromEndL note) [] = none) := by rw [Hid, hgo2.out, if_pos (.inr h16)]
            have h16' : ((acc.length : Int) == 16) = true := by rw [h16]; rfl
            rw [ham']
            clear ham ham' hgo2 h16
            gi_wp2_with fail
            refine ⟨?_, ?_⟩
            · exact (keeps_next (unhide H5).1).trans (keeps_res _ w.heap.size _ _ _)
            · exact ⟨acc, _, (unhide H5).2.res _ _ _, hres.out⟩
          · have hres : Hid (rdGo note (fromEndL note) [] = rdGo note rest (acc ++ [⟨xn, xi, xm⟩])) := by rw [Hid, hgo2.out, if_neg (by simp [ham', h16])]
            have h16' : ((acc.length : Int) == 16) = false := by rw [beq_eq_false_iff_ne]; omega
            rw [ham']
            clear ham ham' hgo2
            gi_wp2_with (gi_at_builtin; go_must (refine wpListIn_appG1 w5 rfl _ _ rfl (y := ⟨xn, xi, xm⟩) (unhide H5).2.own rfl rfl (by omega) (by omega) ?_; intro v6 w6 hO6 hg6 hat6; have HO6 := hide (And.intro hO6 hg6); obtain ⟨A6, cp6, rfl⟩ := hO6.slice; have hap := (unhide H5).2.app hg6 hO6; have c56 := hap.1.cell 0; have f56 := hap.1.frozen 0; simp only [List.getElem?_toArray, List.getElem?_cons_zero] at c56; have HAP := hide hap; clear hO6 hg6 hat6 hap))
            have hap2 := (unhide HAP).2
            simp only [List.length_append, List.length_cons, List.length_nil, Nat.zero_add] at hap2
            refine ⟨?_, ?_, acc ++ [⟨xn, xi, xm⟩], _, hap2.1, ?_, by simp; omega, fun rest' hr' => ?_⟩
            · exact (keeps_next (unhide H5).1).trans hap2.2
            · rw [Below.heap_setCell w6 _ _ _ (by simp), (unhide HO6).2.block _ (by simp; omega) (fun e => by have := ((unhide H5).2.own.lt _ e.symm).1; omega), Below.heap_alloc _ _ _ (by omega)]
              exact (unhide H5).1.block _ hWz
            · have h1 := (unhide HO6).2.size
              rw [World.size_alloc] at h1
              have h2 : (w6.setCell ⟨w.heap.size + 5, 0, none⟩ (.slice A6 (acc.length + 1) cp6)).heap.size = w6.heap.size := by simp [World.setCell]
              rw [h2]; omega
            · rw [hres.out]
              have h1 := unhide HR
              rw [← h1] at hr'
              rw [List.append_cancel_left hr']
  case done =>
    rintro D W hD ⟨acc, v, hB, hWz, hl, hI⟩ hK
    have hres : Hid (readV note = none) := by
      unfold readV
      rw [Hid, if_pos (unhide HNL), hI [] (by simp)]
      rfl
    have HX := hide (And.intro hB (And.intro hD hK)); clear hB hD hK hI
    obtain ⟨A, cp, rfl⟩ := (unhide HX).1.own.slice
    obtain ⟨b0, b1, b2, b3, b4, b5, hO, hb⟩ := id (unhide HX).1
    have c0 := b0.cell 0; have c1 := b1.cell 0; have c2 := b2.cell 0; have c3 := b3.cell 0; have c4 := b4.cell 0; have c5 := b5.cell 0
    have f0 := b0.frozen 0; have f1 := b1.frozen 0; have f2 := b2.frozen 0; have f3 := b3.frozen 0; have f4 := b4.frozen 0; have f5 := b5.frozen 0
    simp only [List.getElem?_toArray, List.getElem?_cons_zero] at c0 c1 c2 c3 c4 c5
    clear b0 b1 b2 b3 b4 b5 hO hb
    have hgo := goes_any ⟨#[]⟩ W (by decide) (Tabs.below (unhide HT) (unhide HX).1.below (Tabs.lt3 (unhide HT)) (Tabs.lt4 (unhide HT)))
    rw [goesV_nil] at hgo
    have HGO := hide hgo; clear hgo
    go_wp2_with fail
    clear c0 c1 c2 c3 c4 c5 f0 f1 f2 f3 f4 f5
    refine (unhide HGO).mono ?_
    rintro e w5 ⟨rfl, hb5⟩
    have hB5 := (unhide HX).1.next hb5
    have hK5 := (hb5.block _ (Array.getElem?_eq_some_iff.1 (unhide HX).2.2).1).trans (unhide HX).2.2
    have H5 := hide (And.intro hB5 hK5); clear hb5 hB5 hK5
    obtain ⟨b0, b1, b2, b3, b4, b5, hO, hb⟩ := id (unhide H5).1
    have c0 := b0.cell 0; have c1 := b1.cell 0; have c2 := b2.cell 0; have c3 := b3.cell 0; have c4 := b4.cell 0; have c5 := b5.cell 0
    have f0 := b0.frozen 0; have f1 := b1.frozen 0; have f2 := b2.frozen 0; have f3 := b3.frozen 0; have f4 := b4.frozen 0; have f5 := b5.frozen 0
    simp only [List.getElem?_toArray, List.getElem?_cons_zero] at c0 c1 c2 c3 c4 c5
    clear b0 b1 b2 b3 b4 b5 hO hb
    have hD7 : w.heap.size + 6 < D := by have h1 := (unhide HST).2.2; have h2 := (unhide HX).2.1; omega
    go_wp2_with fail
    refine read_ret rfl w.heap.size ((unhide H5).1.res _ _ _) ((keeps_res _ _ _ _ _).same D _ (unhide H5).2 rfl) hD7 rfl rfl rfl ⟨_, _, _, rfl⟩ ⟨_, rfl⟩ (fun W' h => ⟨.inr (.inl ⟨h6, hres.out, rfl⟩), h.below⟩)
  case stop =>
    rintro D c pre W hD hpre hX hK
    have hD7 : w.heap.size + 6 < D := by have h1 := (unhide HST).2.2; omega
    cases c with
    | ret =>
      obtain ⟨acc, v, hB, hbad⟩ := hX
      have hres : readV note = none := by unfold readV; rw [if_pos (unhide HNL)]; exact hbad
      have HX := hide (And.intro hB (And.intro hK hres)); clear hB hK hbad hres
      go_wp2_with fail
      exact read_ret rfl w.heap.size (unhide HX).1 (unhide HX).2.1 hD7 rfl rfl rfl ⟨_, _, _, rfl⟩ ⟨_, rfl⟩ (fun W' h => ⟨.inr (.inl ⟨h6, (unhide HX).2.2, rfl⟩), h.below⟩)
    | exit id0 =>
      obtain ⟨rfl, acc, v, at_, hat, hB, hl, hgo⟩ := hX
      obtain ⟨A, cp, rfl⟩ := hB.own.slice
      have hgoes := goes_any (note.extract 0 at_) W (by rw [ByteArray.size_extract]; omega) (Tabs.below (unhide HT) hB.below (Tabs.lt3 (unhide HT)) (Tabs.lt4 (unhide HT)))
      have hrd : Hid (readV note = if goesV (note.extract 0 at_) = true ∧ acc.length ≠ 0 then some (note.extract 0 at_, acc.reverse) else none) := by unfold readV; rw [Hid, if_pos (unhide HNL)]; exact hgo
      generalize note.extract 0 at_ = txt at *
      have HX := hide (And.intro hB hK); have HGO := hide hgoes; clear hB hK hgo hgoes hpre
      obtain ⟨b0, b1, b2, b3, b4, b5, hO, hb⟩ := id (unhide HX).1
      have c0 := b0.cell 0; have c1 := b1.cell 0; have c2 := b2.cell 0; have c3 := b3.cell 0; have c4 := b4.cell 0; have c5 := b5.cell 0
      have f0 := b0.frozen 0; have f1 := b1.frozen 0; have f2 := b2.frozen 0; have f3 := b3.frozen 0; have f4 := b4.frozen 0; have f5 := b5.frozen 0
      simp only [List.getElem?_toArray, List.getElem?_cons_zero] at c0 c1 c2 c3 c4 c5
      clear b0 b1 b2 b3 b4 b5 hO hb
      cases hg : goesV txt with
      | false =>
        have hres : Hid (readV note = none) := by rw [Hid, hrd.out, if_neg (by rw [hg]; simp)]
        rw [hg] at HGO
        clear hrd hg
        go_wp2_with fail
        clear c0 c1 c2 c3 c4 c5 f0 f1 f2 f3 f4 f5
        refine (unhide HGO).mono ?_
        rintro e w5 ⟨rfl, hb5⟩
        have hB5 := (unhide HX).1.next hb5
        have hK5 := (hb5.block _ (Array.getElem?_eq_some_iff.1 (unhide HX).2).1).trans (unhide HX).2
        have H5 := hide (And.intro hB5 hK5); clear hb5 hB5 hK5
        obtain ⟨b0, b1, b2, b3, b4, b5, hO, hb⟩ := id (unhide H5).1
        have c0 := b0.cell 0; have c1 := b1.cell 0; have c2 := b2.cell 0; have c3 := b3.cell 0; have c4 := b4.cell 0; have c5 := b5.cell 0
        have f0 := b0.frozen 0; have f1 := b1.frozen 0; have f2 := b2.frozen 0; have f3 := b3.frozen 0; have f4 := b4.frozen 0; have f5 := b5.frozen 0
        simp only [List.getElem?_toArray, List.getElem?_cons_zero] at c0 c1 c2 c3 c4 c5
        clear b0 b1 b2 b3 b4 b5 hO hb
        go_wp2_with fail
        refine read_ret rfl w.heap.size ((unhide H5).1.res _ _ _) ((keeps_res _ _ _ _ _).same D _ (unhide H5).2 rfl) hD7 rfl rfl rfl ⟨_, _, _, rfl⟩ ⟨_, rfl⟩ (fun W' h => ⟨.inr (.inl ⟨h6, hres.out, rfl⟩), h.below⟩)
      | true =>
        rw [hg] at HGO
        by_cases h0 : acc.length = 0
        · have hres : Hid (readV note = none) := by rw [Hid, hrd.out, if_neg (by rw [h0]; simp)]
          have h0' : ((acc.length : Int) == 0) = true := by rw [h0]; rfl
          clear hrd hg h0
          go_wp2_with fail
          clear c0 c1 c2 c3 c4 c5 f0 f1 f2 f3 f4 f5
          refine (unhide HGO).mono ?_
          rintro e w5 ⟨rfl, hb5⟩
          have hB5 := (unhide HX).1.next hb5
          have hK5 := (hb5.block _ (Array.getElem?_eq_some_iff.1 (unhide HX).2).1).trans (unhide HX).2
          have H5 := hide (And.intro hB5 hK5); clear hb5 hB5 hK5
          obtain ⟨b0, b1, b2, b3, b4, b5, hO, hb⟩ := id (unhide H5).1
          have c0 := b0.cell 0; have c1 := b1.cell 0; have c2 := b2.cell 0; have c3 := b3.cell 0; have c4 := b4.cell 0; have c5 := b5.cell 0
          have f0 := b0.frozen 0; have f1 := b1.frozen 0; have f2 := b2.frozen 0; have f3 := b3.frozen 0; have f4 := b4.frozen 0; have f5 := b5.frozen 0
          simp only [List.getElem?_toArray, List.getElem?_cons_zero] at c0 c1 c2 c3 c4 c5
          clear b0 b1 b2 b3 b4 b5 hO hb
          go_wp2_with fail
          refine read_ret rfl w.heap.size ((unhide H5).1.res _ _ _) ((keeps_res _ _ _ _ _).same D _ (unhide H5).2 rfl) hD7 rfl rfl rfl ⟨_, _, _, rfl⟩ ⟨_, rfl⟩ (fun W' h => ⟨.inr (.inl ⟨h6, hres.out, rfl⟩), h.below⟩)
        · have hres : Hid (readV note = some (txt, acc.reverse)) := by rw [Hid, hrd.out, if_pos ⟨hg, h0⟩]
          have h0' : ((acc.length : Int) == 0) = false := by rw [beq_eq_false_iff_ne]; omega
          clear hrd hg h0
          go_wp2_with fail
          clear c0 c1 c2 c3 c4 c5 f0 f1 f2 f3 f4 f5
          refine (unhide HGO).mono ?_
          rintro e w5 ⟨rfl, hb5⟩
          have hB5 := (unhide HX).1.next hb5
          have hK5 := (hb5.block _ (Array.getElem?_eq_some_iff.1 (unhide HX).2).1).trans (unhide HX).2
          have hrv := reverse_any (.slice A acc.length cp) acc (w.heap.size + 7) w5 (by omega) hB5.own
          have H5 := hide (And.intro hB5 hK5); have HRV := hide hrv; clear hb5 hB5 hK5 hrv
          obtain ⟨b0, b1, b2, b3, b4, b5, hO, hb⟩ := id (unhide H5).1
          have c0 := b0.cell 0; have c1 := b1.cell 0; have c2 := b2.cell 0; have c3 := b3.cell 0; have c4 := b4.cell 0; have c5 := b5.cell 0
          have f0 := b0.frozen 0; have f1 := b1.frozen 0; have f2 := b2.frozen 0; have f3 := b3.frozen 0; have f4 := b4.frozen 0; have f5 := b5.frozen 0
          simp only [List.getElem?_toArray, List.getElem?_cons_zero] at c0 c1 c2 c3 c4 c5
          clear b0 b1 b2 b3 b4 b5 hO hb
          go_wp2_with fail
          clear c0 c1 c2 c3 c4 c5 f0 f1 f2 f3 f4 f5
          refine (unhide HRV).mono ?_
          rintro e w6 ⟨⟨u, rfl⟩, hO6, hg6⟩
          have hB6 := (unhide H5).1.rev hg6 hO6
          have hK6 := (keeps_own (unhide H5).1.own hg6).same D _ (unhide H5).2 rfl
          have H6 := hide (And.intro hB6 hK6); clear hO6 hg6 hB6 hK6 H5 HRV
          obtain ⟨b0, b1, b2, b3, b4, b5, hO, hb⟩ := id (unhide H6).1
          have c0 := b0.cell 0; have c1 := b1.cell 0; have c2 := b2.cell 0; have c3 := b3.cell 0; have c4 := b4.cell 0; have c5 := b5.cell 0
          have f0 := b0.frozen 0; have f1 := b1.frozen 0; have f2 := b2.frozen 0; have f3 := b3.frozen 0; have f4 := b4.frozen 0; have f5 := b5.frozen 0
          simp only [List.getElem?_toArray, List.getElem?_cons_zero] at c0 c1 c2 c3 c4 c5
          clear b0 b1 b2 b3 b4 b5 hO hb
          go_wp2_with fail
          go_region
          go_wp2_with fail
          refine read_ret rfl w.heap.size ((unhide H6).1.res _ _ _).drew (((keeps_res _ _ _ _ _).trans (KeepsOthers.drew _)).same D _ (unhide H6).2 rfl) hD7 rfl rfl rfl ⟨_, _, _, rfl⟩ ⟨_, rfl⟩ (fun W' h => ⟨.inr (.inr ⟨h6, _, _, _, hres.out, rfl, h.own.mono (by omega)⟩), h.below⟩)
    | _ => exact hX.elim
set_option maxRecDepth 100000 in
set_option maxHeartbeats 1000000 in
theorem read_any (note : ByteArray) (w : World) (hs : note.size ≤ 1099511627776) (hM : MaxOk w) (hT : Lib.Utf8Tabs 3 4 w) :
    Calls Tryd.prog 66 #[.string note] w fun e w' => ReadR w.heap.size note e w' ∧ Below w.heap.size w w' := by
  obtain ⟨w4, hw4⟩ : ∃ w4, w4 = (((w.alloc (.cells #[.string note] 9)).alloc (.cells #[.string ⟨#[]⟩] 9)).alloc (.cells #[.slice none 0 0] 51)).alloc (.cells #[.int .i64 0] 22) := ⟨_, rfl⟩
  have hz : w4.heap.size = w.heap.size + 4 := by rw [hw4]; simp
  have b1 : Blk w4 (w.heap.size + 1) 9 #[.string ⟨#[]⟩] := by rw [hw4]; exact ((Blk.new_ (by simp) _ _).alloc _).alloc _
  have b2 : Blk w4 (w.heap.size + 2) 51 #[.slice none 0 0] := by rw [hw4]; exact (Blk.new_ (by simp) _ _).alloc _
  have b3 : Blk w4 (w.heap.size + 3) 22 #[.int .i64 0] := by rw [hw4]; exact Blk.new_ (by simp) _ _
  have hb4 : Below w.heap.size w w4 := by rw [hw4]; exact ((((Below.refl _ _).alloc (Nat.le_refl _) _).alloc (by simp) _).alloc (by simp; omega) _).alloc (by simp; omega) _
  have key : ∀ z : Int, Blk (((w4.setCell ⟨w.heap.size + 1, 0, none⟩ (.string ⟨#[]⟩)).setCell ⟨w.heap.size + 2, 0, none⟩ (.slice none 0 0)).setCell ⟨w.heap.size + 3, 0, none⟩ (.int .i64 z)) (w.heap.size + 1) 9 #[.string ⟨#[]⟩] ∧
      Blk (((w4.setCell ⟨w.heap.size + 1, 0, none⟩ (.string ⟨#[]⟩)).setCell ⟨w.heap.size + 2, 0, none⟩ (.slice none 0 0)).setCell ⟨w.heap.size + 3, 0, none⟩ (.int .i64 z)) (w.heap.size + 2) 51 #[.slice none 0 0] ∧
      Blk (((w4.setCell ⟨w.heap.size + 1, 0, none⟩ (.string ⟨#[]⟩)).setCell ⟨w.heap.size + 2, 0, none⟩ (.slice none 0 0)).setCell ⟨w.heap.size + 3, 0, none⟩ (.int .i64 z)) (w.heap.size + 3) 22 #[.int .i64 z] ∧
      Below w.heap.size w (((w4.setCell ⟨w.heap.size + 1, 0, none⟩ (.string ⟨#[]⟩)).setCell ⟨w.heap.size + 2, 0, none⟩ (.slice none 0 0)).setCell ⟨w.heap.size + 3, 0, none⟩ (.int .i64 z)) := fun z =>
    ⟨((b1.set_ 0 _).far (by simp) _).far (by simp) _, ((b2.far (by simp) _).set_ 0 _).far (by simp) _, ((b3.far (by simp) _).far (by simp) _).set_ 0 _, ((hb4.setCell (by simp) _).setCell (by simp) _).setCell (by simp) _⟩
  rcases Nat.lt_or_ge 65536 note.size with h6 | h6
  · have h6' : (65536 : Int) < (note.size : Int) := by omega
    clear key hb4 b1 b2 b3 hw4 hM hT
    go_enter Tryd.func66, Tryd.ntmps66
    go_wp2_with fail
    simp only [Nat.add_assoc, Nat.reduceAdd]
    refine bodyPost_ret (results3 (N := w.heap.size) rfl (((Blk.new_ (by simp) _ _).alloc _).alloc _) ((Blk.new_ (by simp) _ _).alloc _) (Blk.new_ (by simp) _ _) rfl rfl rfl ⟨_, _, _, rfl⟩ ⟨_, rfl⟩) rfl ⟨.inl ⟨h6, rfl⟩, ((((Below.refl _ _).alloc (Nat.le_refl _) _).alloc (by simp) _).alloc (by simp; omega) _).alloc (by simp; omega) _⟩
  · by_cases hnl : note.data.toList.getLast? = some 10
    · exact read_main note w h6 hnl hM hT
    · have h6' : ¬ (65536 : Int) < (note.size : Int) := by omega
      have hx : Hid (Lib.hasSuffix note.data.toList [10] = false) := by rw [Hid, hasSuffix_nl, decide_eq_false hnl]
      have hres : Hid (readV note = none) := by unfold readV; rw [Hid, if_neg hnl]
      have hsu := Tryd.strings_HasSuffix note ⟨#[10]⟩ w4 (by omega)
      have c1 := b1.cell 0; have c2 := b2.cell 0; have c3 := b3.cell 0; have f1 := b1.frozen 0; have f2 := b2.frozen 0; have f3 := b3.frozen 0
      simp only [List.getElem?_toArray, List.getElem?_cons_zero] at c1 c2 c3
      have HSU := hide hsu; have HW4 := hide hw4; have HK := hide key; clear hw4 key hM hT b1 b2 b3 hb4 hz hsu hnl
      go_enter Tryd.func66, Tryd.ntmps66
      go_wp2_with fail
      rw [← unhide HW4]
      refine (unhide HSU).mono ?_
      rintro e w5 ⟨rfl, rfl⟩
      rw [hx.out]
      simp only [Nat.add_assoc, Nat.reduceAdd]
      go_wp2_with fail
      refine bodyPost_ret (results3 (N := w.heap.size) rfl ((unhide HK) 200).1 ((unhide HK) 200).2.1 ((unhide HK) 200).2.2.1 rfl rfl rfl ⟨_, _, _, rfl⟩ ⟨_, rfl⟩) rfl ⟨.inr (.inl ⟨h6, hres.out, rfl⟩), ((unhide HK) 200).2.2.2⟩
end Go.Proofs.YtfhaoamlagnpjaaDoor

set_option linter.unusedVariables false
set_option linter.unusedSimpArgs false
namespace Go.Proofs.YtfhaoamlagnpjaaDoor
open Go.RowKit Go.Lib
theorem sgn_back_all : ∀ c : Fin 256, tabv (c.val.toUInt8) ≠ 0 → sgn (tabv (c.val.toUInt8) - 1) = c.val.toUInt8 := by decide +kernel
theorem sgn_back (c : UInt8) (h : tabv c ≠ 0) : sgn (tabv c - 1) = c := by
  have e : (c.toNat).toUInt8 = c := by simp
  have := sgn_back_all ⟨c.toNat, c.toNat_lt⟩
  simp only [e] at this
  exact this h
theorem rval_none {c : UInt8} (h : ∀ j, j < 64 → sgn j ≠ c) : rval c = 0 := by
  unfold rval
  by_cases hc : tabv c = 0
  · rw [hc]
  · exact absurd (sgn_back c hc) (h _ (by have := tabv_le c; omega))
set_option maxRecDepth 100000 in
set_option maxHeartbeats 1000000 in
theorem rvalue_any (c : UInt8) (w : World) :
    Calls Tryd.prog 85 #[.string signsS, .int .u8 (c.toNat : Int)] w fun e w' => e = .returned (.int .i64 (rval c : Int)) ∧ w = w' := by
  have hcl := c.toNat_lt
  have hss : signsS.size = 64 := rfl
  obtain ⟨S, hS⟩ : ∃ S, Hid (signsS = S) := ⟨_, Lib.hid rfl⟩
  have hat : ∀ k, k < 64 → S.data[k]? = some (sgn k) := fun k h => by rw [← hS.out]; exact sgn_at k h
  have HAT := hide hat; clear hat
  rw [hS.out] at hss ⊢
  go_enter Tryd.func85, Tryd.ntmps85
  go_wp2_with fail
  go_loopw [5] (fun i wr => ∃ k : Nat, k ≤ 64 ∧ i = .int .i64 k ∧ Hid (∀ j, j < k → sgn j ≠ c) ∧ Hid (w = wr)) (fun i _ => 64 - (RowKit.intOf i).toNat)
  case atStart => exact ⟨0, by omega, rfl, Lib.hid (fun j h => by omega), Lib.hid rfl⟩
  case round =>
    obtain ⟨k, hk, rfl, hI, hw⟩ := hrel
    obtain rfl := hw.out
    rcases Nat.lt_or_ge k 64 with hlt | hge
    · have hkS : (k : Int) < (S.size : Int) := by omega
      have hg := unhide HAT k hlt
      have hgl := (sgn k).toNat_lt
      by_cases hc : sgn k = c
      · have hcc : ((sgn k).toNat : Int) = (c.toNat : Int) := by rw [hc]
        have hres : Hid (rval c = k) := by rw [Hid, ← hc, rval_sgn hlt]
        have HG := hide hg; clear hg
        go_wp2_with (first | (refine wpList_index_str rfl _ _ rfl S k _ rfl rfl rfl (sgn k) (unhide HG) ?_))
        go_ret
        exact ⟨by rw [hres.out]; rfl, rfl⟩
      · have hcc : ((sgn k).toNat : Int) ≠ (c.toNat : Int) := fun e => hc (UInt8.toNat_inj.1 (by omega))
        have HG := hide hg; clear hg
        go_wp2_with (first | (refine wpList_index_str rfl _ _ rfl S k _ rfl rfl rfl (sgn k) (unhide HG) ?_))
        go_roundw
        case rel =>
          refine ⟨k + 1, by omega, by go_num, Lib.hid (fun j h => ?_), Lib.hid trivial⟩
          rcases Nat.lt_succ_iff_lt_or_eq.1 h with h' | rfl
          · exact hI.out j h'
          · exact hc
        case measure => simp [RowKit.intOf]; omega
    · have hkS : ¬ (k : Int) < (S.size : Int) := by omega
      have hres : Hid (rval c = 0) := rval_none (fun j h => hI.out j (by omega))
      go_wp2_with fail
      go_ret
      exact ⟨by rw [hres.out]; rfl, rfl⟩
theorem rgroups_length : ∀ l : List UInt8, (rgroups l).length ≤ l.length
  | [] => by simp [rgroups]
  | [_] => by simp [rgroups]
  | [_, _] => by simp [rgroups]
  | [_, _, _] => by simp [rgroups]
  | a :: b :: c :: d :: r => by
    have := rgroups_length r
    simp [rgroups]
    omega
theorem rgroups_short (l : List UInt8) (h : l.length ≤ 3) : rgroups l = [] := by
  match l, h with
  | [], _ => rfl
  | [_], _ => rfl
  | [_, _], _ => rfl
  | [_, _, _], _ => rfl
theorem rgroups_at (l : List UInt8) (k : Nat) (h : k + 3 < l.length) : rgroups (l.drop k) = [(rfour l[k] l[k + 1] l[k + 2] l[k + 3] / 65536).toUInt8, (rfour l[k] l[k + 1] l[k + 2] l[k + 3] / 256 % 256).toUInt8, (rfour l[k] l[k + 1] l[k + 2] l[k + 3] % 256).toUInt8] ++ rgroups (l.drop (k + 4)) := by
  rw [List.drop_eq_getElem_cons (by omega : k < l.length), List.drop_eq_getElem_cons (by omega : k + 1 < l.length), List.drop_eq_getElem_cons (by omega : k + 1 + 1 < l.length), List.drop_eq_getElem_cons (by omega : k + 1 + 1 + 1 < l.length)]
  rfl
theorem rval_le (c : UInt8) : rval c ≤ 63 := by have := tabv_le c; unfold rval; omega
theorem news3 (w : World) (z0 z1 z2 : Int) (x0 x1 x2 : UInt8) (h0 : z0 = (x0.toNat : Int)) (h1 : z1 = (x1.toNat : Int)) (h2 : z2 = (x2.toNat : Int)) : ∀ j u, (byteCells [x0, x1, x2])[j]? = some u →
    (w.alloc (.cells #[.int .u8 z0, .int .u8 z1, .int .u8 z2] 5)).cell? ((⟨w.heap.size, 0, none⟩ : Addr).add j) = some u := by
  intro j u h
  have hadd : (⟨w.heap.size, 0, none⟩ : Addr).add j = ⟨w.heap.size, j, none⟩ := by unfold Addr.add; split <;> simp_all
  rw [hadd, (Blk.new w 5 _).cell j, ← h, h0, h1, h2]
  simp [byteCells]
theorem OwnB.prefix {w : World} {base : Nat} {p : Option Addr} {m c : Nat} {bs : List UInt8} (h : OwnB w base (.slice p m c) bs) (n : Nat) (hn : n ≤ bs.length) : OwnB w base (.slice p n c) (bs.take n) := by
  rcases h with ⟨hv, rfl⟩ | ⟨g, cap, cur, fz, hv, h1, h2, h3, h4, h5, h6, h7⟩
  · injection hv with e1 e2 e3
    subst e1 e2 e3
    simp at hn
    subst hn
    exact .inl ⟨rfl, rfl⟩
  · injection hv with e1 e2 e3
    subst e1 e2 e3
    refine .inr ⟨g, c, cur, fz, by rw [List.length_take, Nat.min_eq_left hn], h1, h2, h3, by rw [List.length_take]; omega, h5, h6, ?_⟩
    rw [List.length_take, Nat.min_eq_left hn]
    have e : (cur.toList.take bs.length).take n = (byteCells bs).take n := by rw [h7]
    rw [List.take_take, Nat.min_eq_left hn] at e
    rw [e]
    simp [byteCells, List.map_take]
set_option maxRecDepth 100000 in
set_option maxHeartbeats 2000000 in
theorem runb_any (s : ByteArray) (w : World) (hs : s.size ≤ 1099511627776) :
    Calls Tryd.prog 57 #[.string s] w fun e w' => e = .returned (unbA s) ∧ Below w.heap.size w w' := by
  have hll : s.data.toList.length = s.size := Array.length_toList
  go_enter Tryd.func57, Tryd.ntmps57
  go_wp2_with fail
  go_loopw [4, 5] (fun v i wr => ∃ (k : Nat) (acc : List UInt8), i = .int .i64 k ∧ k ≤ s.size + 4 ∧ Hid (acc ++ rgroups (s.data.toList.drop k) = rgroups s.data.toList) ∧ OwnB wr w.heap.size v acc ∧ Below w.heap.size w wr) (fun _ i _ => s.size + 8 - (RowKit.intOf i).toNat)
  case atStart => exact ⟨0, [], rfl, by omega, Lib.hid rfl, OwnB.nil _ _, Below.refl _ _⟩
  case round =>
    obtain ⟨k, acc, rfl, hk, hI, hO, hb⟩ := hrel
    have hgl := rgroups_length s.data.toList
    have hal : Hid (acc.length ≤ s.size) := by
      have h := congrArg List.length hI.out
      rw [List.length_append] at h
      unfold Hid
      omega
    clear hgl
    have HX := hide (And.intro hI (And.intro hO hb)); clear hI hO hb
    rcases Nat.lt_or_ge (k + 3) s.size with hlt | hge
    · have hlt' : (k : Int) + 3 < (s.size : Int) := by omega
      have k0 : (0 : Int) ≤ (k : Int) := by omega
      have hg0 : (s.data.toList[k]'(by omega)) = s[k]'(by omega) := rfl
      have hg1 : (s.data.toList[k + 1]'(by omega)) = s[k + 1]'(by omega) := rfl
      have hg2 : (s.data.toList[k + 2]'(by omega)) = s[k + 2]'(by omega) := rfl
      have hg3 : (s.data.toList[k + 3]'(by omega)) = s[k + 3]'(by omega) := rfl
      have hrg := rgroups_at s.data.toList k (by omega)
      rw [hg0, hg1, hg2, hg3] at hrg
      clear hg0 hg1 hg2 hg3
      have HRG := Lib.hid hrg; clear hrg
      have b0 : k < s.size := by omega
      have b1 : k + 1 < s.size := by omega
      have b2 : k + 2 < s.size := by omega
      have b3 : k + 3 < s.size := by omega
      have i0 : (k : Int) < (s.size : Int) := by omega
      have i1 : (k : Int) + 1 < (s.size : Int) := by omega
      have i2 : (k : Int) + 2 < (s.size : Int) := by omega
      have t0 : (s[k]'b0).toNat < 256 := s[k].toNat_lt
      have t1 : (s[k + 1]'b1).toNat < 256 := s[k + 1].toNat_lt
      have t2 : (s[k + 2]'b2).toNat < 256 := s[k + 2].toNat_lt
      have t3 : (s[k + 3]'b3).toNat < 256 := s[k + 3].toNat_lt
      have l0 := rval_le (s[k]'b0)
      have l1 := rval_le (s[k + 1]'b1)
      have l2 := rval_le (s[k + 2]'b2)
      have l3 := rval_le (s[k + 3]'b3)
      have q1 : IntKind.i64.wrap ((k : Int) + 1) = k + 1 := IntWalk.i64_in _ (by omega)
      have q2 : IntKind.i64.wrap ((k : Int) + 2) = k + 2 := IntWalk.i64_in _ (by omega)
      have q3 : IntKind.i64.wrap ((k : Int) + 3) = k + 3 := IntWalk.i64_in _ (by omega)
      have p1 : ((k : Int) + 1).toNat = k + 1 := by omega
      have p2 : ((k : Int) + 2).toNat = k + 2 := by omega
      have p3 : ((k : Int) + 3).toNat = k + 3 := by omega
      have o1 : 0 ≤ (k : Int) + 1 := by omega
      have o2 : 0 ≤ (k : Int) + 2 := by omega
      have o3 : 0 ≤ (k : Int) + 3 := by omega
      have m0 : IntKind.i64.wrap (((rval (s[k]'b0)) : Int) * 262144) = ((rval (s[k]'b0)) : Int) * 262144 := IntWalk.i64_in _ (by omega)
      have m1 : IntKind.i64.wrap (((rval (s[k + 1]'b1)) : Int) * 4096) = ((rval (s[k + 1]'b1)) : Int) * 4096 := IntWalk.i64_in _ (by omega)
      have m2 : IntKind.i64.wrap (((rval (s[k + 2]'b2)) : Int) * 64) = ((rval (s[k + 2]'b2)) : Int) * 64 := IntWalk.i64_in _ (by omega)
      have a1 : IntKind.i64.wrap (((rval (s[k]'b0)) : Int) * 262144 + ((rval (s[k + 1]'b1)) : Int) * 4096) = ((rval (s[k]'b0)) : Int) * 262144 + ((rval (s[k + 1]'b1)) : Int) * 4096 := IntWalk.i64_in _ (by omega)
      have a2 : IntKind.i64.wrap (((rval (s[k]'b0)) : Int) * 262144 + ((rval (s[k + 1]'b1)) : Int) * 4096 + ((rval (s[k + 2]'b2)) : Int) * 64) = ((rval (s[k]'b0)) : Int) * 262144 + ((rval (s[k + 1]'b1)) : Int) * 4096 + ((rval (s[k + 2]'b2)) : Int) * 64 := IntWalk.i64_in _ (by omega)
      have a3 : IntKind.i64.wrap (((rval (s[k]'b0)) : Int) * 262144 + ((rval (s[k + 1]'b1)) : Int) * 4096 + ((rval (s[k + 2]'b2)) : Int) * 64 + ((rval (s[k + 3]'b3)) : Int)) = ((rval (s[k]'b0)) : Int) * 262144 + ((rval (s[k + 1]'b1)) : Int) * 4096 + ((rval (s[k + 2]'b2)) : Int) * 64 + ((rval (s[k + 3]'b3)) : Int) := IntWalk.i64_in _ (by omega)
      go_wp2_with fail
      go_quiet (first | (go_at_call 85; first | exact quiet_left (rvalue_any _ _)))
      obtain ⟨N, hN⟩ : ∃ N : Nat, Hid (rfour (s[k]'b0) (s[k + 1]'b1) (s[k + 2]'b2) (s[k + 3]'b3) = N) := ⟨_, Lib.hid rfl⟩
      have hNv : ((rval (s[k]'b0) : Int) * 262144 + (rval (s[k + 1]'b1) : Int) * 4096 + (rval (s[k + 2]'b2) : Int) * 64 + (rval (s[k + 3]'b3) : Int)) = (N : Int) := by
        rw [← hN.out]
        unfold rfour
        omega
      rw [hNv]
      have hNb : N ≤ 16777215 := by omega
      rw [hN.out] at HRG
      clear hNv m0 m1 m2 a1 a2 a3 q1 q2 q3 l0 l1 l2 l3
      have x0 : (((N / 65536).toUInt8).toNat : Int) = (N : Int) / 65536 % 256 := by
        have e : ((N / 65536).toUInt8).toNat = (N / 65536) % 256 := UInt8.toNat_ofNat' ..
        rw [e]; omega
      have x1 : (((N / 256 % 256).toUInt8).toNat : Int) = (N : Int) / 256 % 256 := by
        have e : ((N / 256 % 256).toUInt8).toNat = (N / 256 % 256) % 256 := UInt8.toNat_ofNat' ..
        rw [e]; omega
      have x2 : (((N % 256).toUInt8).toNat : Int) = (N : Int) % 256 := by
        have e : ((N % 256).toUInt8).toNat = (N % 256) % 256 := UInt8.toNat_ofNat' ..
        rw [e]; omega
      have HXS := hide (And.intro x0 (And.intro x1 x2)); clear x0 x1 x2
      have hnews := news3 (wr.drewN nq) ((N : Int) / 65536) ((N : Int) / 256 % 256) ((N : Int) % 256) (N / 65536).toUInt8 (N / 256 % 256).toUInt8 (N % 256).toUInt8 (by rw [(unhide HXS).1]; omega) (by rw [(unhide HXS).2.1]) (by rw [(unhide HXS).2.2])
      have HNW := hide hnews; clear hnews
      go_wp2_with (first | (at_builtin; refine wpList_app_cells _ rfl _ _ rfl (((unhide HX).2.1.drewN nq).alloc _) rfl ⟨wr.heap.size, 0, none⟩ 3 3 [(N / 65536).toUInt8, (N / 256 % 256).toUInt8, (N % 256).toUInt8] rfl rfl (unhide HNW) (by have := hal.out; omega) (by have := (unhide HX).2.2.size; simp; omega) ?_; intro v1 w1 hO1 hg1 hat1; have H1 := hide (And.intro hO1 (And.intro hg1 hat1)); clear hO1 hg1 hat1))
      have hb1 : Below w.heap.size w w1 := ((below_drewN (unhide HX).2.2 nq).alloc (by have := (unhide HX).2.2.size; simp; omega) _).grown (unhide H1).2.1 (by have := (unhide HX).2.2.size; simp; omega) (fun q hq => ((unhide HX).2.1.lt _ hq).1)
      go_roundw
      case rel =>
        refine ⟨k + 4, acc ++ [(N / 65536).toUInt8, (N / 256 % 256).toUInt8, (N % 256).toUInt8], by go_num, by omega, ?_, (unhide H1).1, hb1⟩
        rw [Hid, List.append_assoc, ← HRG.out]
        exact (unhide HX).1.out
      case measure => simp [RowKit.intOf]; omega
    · have hge' : ¬ (k : Int) + 3 < (s.size : Int) := by omega
      have hacc : acc = rgroups s.data.toList := by
        have h := (unhide HX).1.out
        rw [rgroups_short _ (by rw [List.length_drop]; omega), List.append_nil] at h
        exact h
      have HA := Lib.hid hacc; clear hacc
      have hund : ∀ c, rcut s.data.toList = c → (acc.length < c → unbA s = .tuple #[.string ⟨#[]⟩, .int .i64 40]) ∧ (c ≤ acc.length → ∀ t : ByteArray, t = ⟨(acc.take (acc.length - c)).toArray⟩ → (b64S t = s → unbA s = .tuple #[.string t, .int .i64 0]) ∧ (b64S t ≠ s → unbA s = .tuple #[.string ⟨#[]⟩, .int .i64 40])) := by
        rintro c rfl
        have hb (t : ByteArray) (ht : b64S t = s) : rundigL s.data.toList = t.data.toList ∧ rcut s.data.toList ≤ (rgroups s.data.toList).length := by
          rw [b64S_list ht]
          exact rundig_b64 _
        refine ⟨fun h => unbA_none (unb64V_none fun t ht => ?_), fun h t ht => ⟨fun h1 => unbA_some (unb64V_of h1), fun h1 => unbA_none (unb64V_none fun t' ht' => h1 ?_)⟩⟩
        · have := (hb t ht).2
          rw [← HA.out] at this
          omega
        · have e := (hb t' ht').1
          have : t = t' := by
            rw [ht]
            apply bs_eq
            show acc.take (acc.length - rcut s.data.toList) = _
            rw [← e, HA.out]
            rfl
          rw [this]
          exact ht'
      have HUND := hide hund; clear hund
      have hal' := hal.out
      have hform : (∃ cap, u4 = .slice none acc.length cap ∧ acc = []) ∨ ∃ g cap, u4 = .slice (some ⟨g, 0, none⟩) acc.length cap ∧ acc.length ≤ cap := by
        rcases (unhide HX).2.1 with ⟨hv, he⟩ | ⟨g, cap, cur, fz, hv, -, -, -, hc, -⟩
        · exact .inl ⟨0, by rw [hv, he]; rfl, he⟩
        · exact .inr ⟨g, cap, hv, hc⟩
      obtain ⟨p, cap, rfl, hcap, hpn⟩ : ∃ p cap, u4 = .slice p acc.length cap ∧ acc.length ≤ cap ∧ (p = none → acc = []) := by
        rcases hform with ⟨cap, hv, he⟩ | ⟨g, cap, hv, hc⟩
        · exact ⟨none, cap, hv, by rw [he]; exact Nat.zero_le _, fun _ => he⟩
        · exact ⟨_, cap, hv, hc, fun h => by cases h⟩
      clear hform
      have hcv : ∀ c, (convert 75 9 (.slice p (acc.length - c) cap)).run Tryd.prog wr = .ok (.string ⟨(acc.take (acc.length - c)).toArray⟩) wr := fun c => conv_own ((unhide HX).2.1.prefix (acc.length - c) (Nat.sub_le _ _))
      have HCV := hide hcv; clear hcv
      have hcv : True := trivial
      rcases Nat.eq_zero_or_pos s.size with h0 | h0
      · have hsn : s.data.toList = [] := List.eq_nil_of_length_eq_zero (by omega)
        have hcut : Hid (rcut s.data.toList = 0) := by rw [Hid, hsn]; rfl
        have hs01 : ¬ (0 : Int) < (s.size : Int) := by omega
        have hs11 : ¬ (1 : Int) < (s.size : Int) := by omega
        clear hsn
        have hres := ((unhide HUND) 0 hcut.out).2 (Nat.zero_le _) _ rfl
        have hgt' : ¬ (acc.length : Int) < 0 := by omega
        have hcv' := unhide HCV 0
        obtain ⟨L, hL⟩ : ∃ L, acc.length - 0 = L := ⟨_, rfl⟩
        rw [hL] at hres hcv'
        have hLi : (acc.length : Int) - 0 = (L : Int) := by omega
        obtain ⟨t, ht⟩ : ∃ t, Hid ((⟨(acc.take L).toArray⟩ : ByteArray) = t) := ⟨_, Lib.hid rfl⟩
        rw [ht.out] at hres hcv'
        have hts : t.size ≤ 1099511627776 := by
          rw [← ht.out]
          show (acc.take L).toArray.size ≤ _
          rw [List.size_toArray, List.length_take]
          omega
        have hrb := rb64_any t wr (by omega)
        have HRES := hide hres; have HRB := hide hrb; clear hres hrb
        have hLc : L ≤ cap := by omega
        go_wp2_with fail
        refine (unhide HRB).mono ?_
        rintro e w1 ⟨rfl, rfl⟩
        obtain ⟨D, HDe⟩ : ∃ D, Hid (b64S t = D) := ⟨_, Lib.hid rfl⟩
        rw [HDe.out] at HRES ⊢
        by_cases he : D = s
        · have hr := Lib.hid ((unhide HRES).1 he)
          subst he
          go_wp2_with fail
          go_ret2
          exact ⟨by rw [hr.out]; rfl, (unhide HX).2.2⟩
        · have hr := Lib.hid ((unhide HRES).2 he)
          have he' := toList_ne he
          go_wp2_with fail
          go_ret2
          exact ⟨by rw [hr.out]; rfl, (unhide HX).2.2⟩
      · have hs01 : (0 : Int) < (s.size : Int) := by omega
        have hlt1 : s.size - 1 < s.size := by omega
        have hix : (s[s.size - 1]'hlt1).toNat < 256 := s[s.size - 1].toNat_lt
        have hm1 : (s.size : Int) - 1 = ((s.size - 1 : Nat) : Int) := by omega
        have hgl : Hid (s.data.toList.getLast? = some s[s.size - 1]) := by
          rw [Hid, List.getLast?_eq_getElem?, hll, List.getElem?_eq_getElem (by omega)]
          rfl
        by_cases hc : s[s.size - 1] = 61
        · have hcc : ((s[s.size - 1].toNat : Int) == 61) = true := by rw [hc]; rfl
          rcases Nat.lt_or_ge 1 s.size with h1 | h1
          · have hs11 : (1 : Int) < (s.size : Int) := by omega
            have hlt2 : s.size - 2 < s.size := by omega
            have hix2 : (s[s.size - 2]'hlt2).toNat < 256 := s[s.size - 2].toNat_lt
            have hm2 : (s.size : Int) - 2 = ((s.size - 2 : Nat) : Int) := by omega
            have hgl2 : Hid (s.data.toList.dropLast.getLast? = some s[s.size - 2]) := by
              rw [Hid, List.getLast?_eq_getElem?, List.length_dropLast, hll, List.getElem?_dropLast, if_pos (by omega), List.getElem?_eq_getElem (by omega)]
              rfl
            by_cases hd : s[s.size - 2] = 61
            · have hcut : Hid (rcut s.data.toList = 2) := by
                unfold rcut
                rw [Hid, hgl.out, hc, if_pos rfl, hgl2.out, hd, if_pos rfl]
              have hdd : ((s[s.size - 2].toNat : Int) == 61) = true := by rw [hd]; rfl
              rcases Nat.lt_or_ge acc.length 2 with hgt | hgt
              · have hres := Lib.hid (((unhide HUND) 2 hcut.out).1 hgt)
                have hgt' : (acc.length : Int) < 2 := by omega
                clear hcv
                go_wp2_with fail
                go_ret2
                exact ⟨by rw [hres.out]; rfl, (unhide HX).2.2⟩
              · have hres := ((unhide HUND) 2 hcut.out).2 hgt _ rfl
                have hgt' : ¬ (acc.length : Int) < 2 := by omega
                have hcv' := unhide HCV 2
                obtain ⟨L, hL⟩ : ∃ L, acc.length - 2 = L := ⟨_, rfl⟩
                rw [hL] at hres hcv'
                have hLi : (acc.length : Int) - 2 = (L : Int) := by omega
                obtain ⟨t, ht⟩ : ∃ t, Hid ((⟨(acc.take L).toArray⟩ : ByteArray) = t) := ⟨_, Lib.hid rfl⟩
                rw [ht.out] at hres hcv'
                have hts : t.size ≤ 1099511627776 := by
                  rw [← ht.out]
                  show (acc.take L).toArray.size ≤ _
                  rw [List.size_toArray, List.length_take]
                  omega
                have hrb := rb64_any t wr (by omega)
                have HRES := hide hres; have HRB := hide hrb; clear hres hrb
                have hLc : L ≤ cap := by omega
                go_wp2_with fail
                refine (unhide HRB).mono ?_
                rintro e w1 ⟨rfl, rfl⟩
                obtain ⟨D, HDe⟩ : ∃ D, Hid (b64S t = D) := ⟨_, Lib.hid rfl⟩
                rw [HDe.out] at HRES ⊢
                by_cases he : D = s
                · have hr := Lib.hid ((unhide HRES).1 he)
                  subst he
                  go_wp2_with fail
                  go_ret2
                  exact ⟨by rw [hr.out]; rfl, (unhide HX).2.2⟩
                · have hr := Lib.hid ((unhide HRES).2 he)
                  have he' := toList_ne he
                  go_wp2_with fail
                  go_ret2
                  exact ⟨by rw [hr.out]; rfl, (unhide HX).2.2⟩
            · have hcut : Hid (rcut s.data.toList = 1) := by
                unfold rcut
                rw [Hid, hgl.out, hc, if_pos rfl, hgl2.out, if_neg (by simpa using hd)]
              have hdd : ((s[s.size - 2].toNat : Int) == 61) = false := by
                rw [beq_eq_false_iff_ne]
                exact fun e => hd (UInt8.toNat_inj.1 (by rw [show (61 : UInt8).toNat = 61 from rfl]; omega))
              rcases Nat.lt_or_ge acc.length 1 with hgt | hgt
              · have hres := Lib.hid (((unhide HUND) 1 hcut.out).1 hgt)
                have hgt' : (acc.length : Int) < 1 := by omega
                clear hcv
                go_wp2_with fail
                go_ret2
                exact ⟨by rw [hres.out]; rfl, (unhide HX).2.2⟩
              · have hres := ((unhide HUND) 1 hcut.out).2 hgt _ rfl
                have hgt' : ¬ (acc.length : Int) < 1 := by omega
                have hcv' := unhide HCV 1
                obtain ⟨L, hL⟩ : ∃ L, acc.length - 1 = L := ⟨_, rfl⟩
                rw [hL] at hres hcv'
                have hLi : (acc.length : Int) - 1 = (L : Int) := by omega
                obtain ⟨t, ht⟩ : ∃ t, Hid ((⟨(acc.take L).toArray⟩ : ByteArray) = t) := ⟨_, Lib.hid rfl⟩
                rw [ht.out] at hres hcv'
                have hts : t.size ≤ 1099511627776 := by
                  rw [← ht.out]
                  show (acc.take L).toArray.size ≤ _
                  rw [List.size_toArray, List.length_take]
                  omega
                have hrb := rb64_any t wr (by omega)
                have HRES := hide hres; have HRB := hide hrb; clear hres hrb
                have hLc : L ≤ cap := by omega
                go_wp2_with fail
                refine (unhide HRB).mono ?_
                rintro e w1 ⟨rfl, rfl⟩
                obtain ⟨D, HDe⟩ : ∃ D, Hid (b64S t = D) := ⟨_, Lib.hid rfl⟩
                rw [HDe.out] at HRES ⊢
                by_cases he : D = s
                · have hr := Lib.hid ((unhide HRES).1 he)
                  subst he
                  go_wp2_with fail
                  go_ret2
                  exact ⟨by rw [hr.out]; rfl, (unhide HX).2.2⟩
                · have hr := Lib.hid ((unhide HRES).2 he)
                  have he' := toList_ne he
                  go_wp2_with fail
                  go_ret2
                  exact ⟨by rw [hr.out]; rfl, (unhide HX).2.2⟩
          · have hs11 : ¬ (1 : Int) < (s.size : Int) := by omega
            have hc0 : s[0]'h0 = 61 := by
              have e : s.size - 1 = 0 := by omega
              simp only [e] at hc
              exact hc
            have hcc0 : ((s[0].toNat : Int) == 61) = true := by rw [hc0]; rfl
            have hcut : Hid (rcut s.data.toList = 1) := by
              unfold rcut
              rw [Hid, hgl.out, hc, if_pos rfl]
              have : s.data.toList.dropLast = [] := List.eq_nil_of_length_eq_zero (by rw [List.length_dropLast]; omega)
              rw [this]
              rfl
            rcases Nat.lt_or_ge acc.length 1 with hgt | hgt
            · have hres := Lib.hid (((unhide HUND) 1 hcut.out).1 hgt)
              have hgt' : (acc.length : Int) < 1 := by omega
              clear hcv
              go_wp2_with fail
              go_ret2
              exact ⟨by rw [hres.out]; rfl, (unhide HX).2.2⟩
            · have hres := ((unhide HUND) 1 hcut.out).2 hgt _ rfl
              have hgt' : ¬ (acc.length : Int) < 1 := by omega
              have hcv' := unhide HCV 1
              obtain ⟨L, hL⟩ : ∃ L, acc.length - 1 = L := ⟨_, rfl⟩
              rw [hL] at hres hcv'
              have hLi : (acc.length : Int) - 1 = (L : Int) := by omega
              obtain ⟨t, ht⟩ : ∃ t, Hid ((⟨(acc.take L).toArray⟩ : ByteArray) = t) := ⟨_, Lib.hid rfl⟩
              rw [ht.out] at hres hcv'
              have hts : t.size ≤ 1099511627776 := by
                rw [← ht.out]
                show (acc.take L).toArray.size ≤ _
                rw [List.size_toArray, List.length_take]
                omega
              have hrb := rb64_any t wr (by omega)
              have HRES := hide hres; have HRB := hide hrb; clear hres hrb
              have hLc : L ≤ cap := by omega
              go_wp2_with fail
              refine (unhide HRB).mono ?_
              rintro e w1 ⟨rfl, rfl⟩
              obtain ⟨D, HDe⟩ : ∃ D, Hid (b64S t = D) := ⟨_, Lib.hid rfl⟩
              rw [HDe.out] at HRES ⊢
              by_cases he : D = s
              · have hr := Lib.hid ((unhide HRES).1 he)
                subst he
                go_wp2_with fail
                go_ret2
                exact ⟨by rw [hr.out]; rfl, (unhide HX).2.2⟩
              · have hr := Lib.hid ((unhide HRES).2 he)
                have he' := toList_ne he
                go_wp2_with fail
                go_ret2
                exact ⟨by rw [hr.out]; rfl, (unhide HX).2.2⟩
        · have hcc : ((s[s.size - 1].toNat : Int) == 61) = false := by
            rw [beq_eq_false_iff_ne]
            exact fun e => hc (UInt8.toNat_inj.1 (by rw [show (61 : UInt8).toNat = 61 from rfl]; omega))
          have hcut : Hid (rcut s.data.toList = 0) := by
            unfold rcut
            rw [Hid, hgl.out, if_neg (by simpa using hc)]
          rcases Nat.lt_or_ge 1 s.size with h1 | h1
          · have hs11 : (1 : Int) < (s.size : Int) := by omega
            have hres := ((unhide HUND) 0 hcut.out).2 (Nat.zero_le _) _ rfl
            have hgt' : ¬ (acc.length : Int) < 0 := by omega
            have hcv' := unhide HCV 0
            obtain ⟨L, hL⟩ : ∃ L, acc.length - 0 = L := ⟨_, rfl⟩
            rw [hL] at hres hcv'
            have hLi : (acc.length : Int) - 0 = (L : Int) := by omega
            obtain ⟨t, ht⟩ : ∃ t, Hid ((⟨(acc.take L).toArray⟩ : ByteArray) = t) := ⟨_, Lib.hid rfl⟩
            rw [ht.out] at hres hcv'
            have hts : t.size ≤ 1099511627776 := by
              rw [← ht.out]
              show (acc.take L).toArray.size ≤ _
              rw [List.size_toArray, List.length_take]
              omega
            have hrb := rb64_any t wr (by omega)
            have HRES := hide hres; have HRB := hide hrb; clear hres hrb
            have hLc : L ≤ cap := by omega
            go_wp2_with fail
            refine (unhide HRB).mono ?_
            rintro e w1 ⟨rfl, rfl⟩
            obtain ⟨D, HDe⟩ : ∃ D, Hid (b64S t = D) := ⟨_, Lib.hid rfl⟩
            rw [HDe.out] at HRES ⊢
            by_cases he : D = s
            · have hr := Lib.hid ((unhide HRES).1 he)
              subst he
              go_wp2_with fail
              go_ret2
              exact ⟨by rw [hr.out]; rfl, (unhide HX).2.2⟩
            · have hr := Lib.hid ((unhide HRES).2 he)
              have he' := toList_ne he
              go_wp2_with fail
              go_ret2
              exact ⟨by rw [hr.out]; rfl, (unhide HX).2.2⟩
          · have hs11 : ¬ (1 : Int) < (s.size : Int) := by omega
            have hc0 : ¬ s[0]'h0 = 61 := by
              have e : s.size - 1 = 0 := by omega
              simp only [e] at hc
              exact hc
            have hcc0 : ((s[0].toNat : Int) == 61) = false := by
              rw [beq_eq_false_iff_ne]
              exact fun e => hc0 (UInt8.toNat_inj.1 (by rw [show (61 : UInt8).toNat = 61 from rfl]; omega))
            have hres := ((unhide HUND) 0 hcut.out).2 (Nat.zero_le _) _ rfl
            have hgt' : ¬ (acc.length : Int) < 0 := by omega
            have hcv' := unhide HCV 0
            obtain ⟨L, hL⟩ : ∃ L, acc.length - 0 = L := ⟨_, rfl⟩
            rw [hL] at hres hcv'
            have hLi : (acc.length : Int) - 0 = (L : Int) := by omega
            obtain ⟨t, ht⟩ : ∃ t, Hid ((⟨(acc.take L).toArray⟩ : ByteArray) = t) := ⟨_, Lib.hid rfl⟩
            rw [ht.out] at hres hcv'
            have hts : t.size ≤ 1099511627776 := by
              rw [← ht.out]
              show (acc.take L).toArray.size ≤ _
              rw [List.size_toArray, List.length_take]
              omega
            have hrb := rb64_any t wr (by omega)
            have HRES := hide hres; have HRB := hide hrb; clear hres hrb
            have hLc : L ≤ cap := by omega
            go_wp2_with fail
            refine (unhide HRB).mono ?_
            rintro e w1 ⟨rfl, rfl⟩
            obtain ⟨D, HDe⟩ : ∃ D, Hid (b64S t = D) := ⟨_, Lib.hid rfl⟩
            rw [HDe.out] at HRES ⊢
            by_cases he : D = s
            · have hr := Lib.hid ((unhide HRES).1 he)
              subst he
              go_wp2_with fail
              go_ret2
              exact ⟨by rw [hr.out]; rfl, (unhide HX).2.2⟩
            · have hr := Lib.hid ((unhide HRES).2 he)
              have he' := toList_ne he
              go_wp2_with fail
              go_ret2
              exact ⟨by rw [hr.out]; rfl, (unhide HX).2.2⟩
end Go.Proofs.YtfhaoamlagnpjaaDoor

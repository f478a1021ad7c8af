/-
  THE WALK of the law NoteBack.
-/
import Derived.Test.YtfhaoamlagnpjaaDoorRows
import Derived.Deep.DeepCutAuto
import Derived.Deep.DeepMust
import Derived.Test.YtfhaoamlagnpjaaDoorGBase
import Derived.Test.YtfhaoamlagnpjaaDoorSBackP
import Derived.Test.YtfhaoamlagnpjaaDoorSNamed
import Derived.Test.YtfhaoamlagnpjaaDoorSSigners
import Derived.Test.YtfhaoamlagnpjaaDoorSSigsL
import Derived.Test.YtfhaoamlagnpjaaDoorSSign
import Derived.Test.YtfhaoamlagnpjaaDoorSAdd
import Derived.Test.YtfhaoamlagnpjaaDoorGOp
import Derived.Test.YtfhaoamlagnpjaaDoorGKs
import Derived.Test.YtfhaoamlagnpjaaDoorGTx
import Derived.Test.YtfhaoamlagnpjaaDoorGLay
import Derived.Test.YtfhaoamlagnpjaaDoorSLaidP
import Derived.Test.YtfhaoamlagnpjaaDoorSMaxIs
import Derived.Test.YtfhaoamlagnpjaaDoorSHeldO
set_option linter.unusedVariables false
set_option linter.unusedSimpArgs false
namespace Go.Proofs.YtfhaoamlagnpjaaDoor
open Go.RowKit Go.Lib
theorem and_small (a : Int) (m : Nat) (hm : m < 128) : ∃ z : Nat, bits .and .i64 a (m : Int) = (z : Int) ∧ z ≤ m := by
  refine ⟨(BitVec.ofInt 64 a &&& BitVec.ofInt 64 (m : Int)).toNat, ?_, ?_⟩
  · show IntKind.i64.wrap ((BitVec.ofInt 64 a &&& BitVec.ofInt 64 (m : Int)).toNat : Int) = _
    have h : (BitVec.ofInt 64 a &&& BitVec.ofInt 64 (m : Int)).toNat ≤ m := by
      rw [BitVec.toNat_and, ofInt_i64 m (by omega)]; exact Nat.and_le_right
    rw [IntKind.wrap_i64]
    omega
  · rw [BitVec.toNat_and, ofInt_i64 m (by omega)]; exact Nat.and_le_right
theorem OwnK.mono {w : World} {base base' : Nat} {v : Value} {xs : List KeyR} (h : OwnK w base v xs) (hb : base' ≤ base) : OwnK w base' v xs := by
  refine ⟨h.1, ?_⟩
  rcases h.2 with h2 | ⟨g, cap, cur, h1, h2, h3⟩
  · exact .inl h2
  · exact .inr ⟨g, cap, cur, h1, by omega, h3⟩
theorem OwnK.toKeys {w : World} {base : Nat} {v : Value} {xs : List KeyR} (h : OwnK w base v xs) : KeysAt w v xs := by
  rcases h.form with ⟨hv, he⟩ | ⟨g, cap, hv, h1, h2, h3⟩
  · subst he; exact ⟨Option.none, 0, hv, fun j hj => by simp at hj⟩
  · subst hv
    have := h.keys xs.length cap (Nat.le_refl _)
    rwa [List.take_length] at this
theorem keptK {W W' : World} {o : Obj} {base : Nat} {u v : Value} {xs : List KeyR} (h : OwnK W base u xs) (hg : (W.alloc o).grownBy W' v.ownBlock) (hne : ∀ k, v.ownBlock = Option.some k → u.ownBlock ≠ Option.some k) : OwnK W' base u xs := by
  refine World.ownsRow.kept (h.alloc o) hg ?_
  cases hv : v.ownBlock with
  | none => cases hu : u.ownBlock <;> simp
  | some k => exact .inr (hne k hv)
theorem new_neK {W : World} {base : Nat} {u v v' : Value} {xs : List KeyR} (h : OwnK W base u xs) (hat : v'.ownBlock = v.ownBlock ∨ v'.ownBlock = Option.some (W.heap.size + 1)) (hne : ∀ k, v.ownBlock = Option.some k → u.ownBlock ≠ Option.some k) : ∀ k, v'.ownBlock = Option.some k → u.ownBlock ≠ Option.some k := by
  intro k hk
  rcases hat with e | e
  · exact hne k (e ▸ hk)
  · rw [e] at hk
    injection hk with hk
    intro e2
    have := (h.lt k e2).2
    omega
/-- The two lists under way beside the signers. -/
structure BkS (w W : World) (lv m o : Value) (l M O : List KeyR) : Prop where
  ol : OwnK W w.heap.size lv l
  om : OwnK W w.heap.size m M
  oo : OwnK W w.heap.size o O
  ml : ∀ k, m.ownBlock = Option.some k → lv.ownBlock ≠ Option.some k
  dl : ∀ k, o.ownBlock = Option.some k → lv.ownBlock ≠ Option.some k
  mo : ∀ k, m.ownBlock = Option.some k → o.ownBlock ≠ Option.some k
  below : Below w.heap.size w W
theorem BkS.appM {w W W' : World} {lv m m' o : Value} {l M M' O : List KeyR} {ob : Obj} (h : BkS w W lv m o l M O) (hg : (W.alloc ob).grownBy W' m.ownBlock) (h' : OwnK W' w.heap.size m' M') (hat : m'.ownBlock = m.ownBlock ∨ m'.ownBlock = Option.some (W.heap.size + 1)) : BkS w W' lv m' o l M' O :=
  ⟨keptK h.ol hg h.ml, h', keptK h.oo hg h.mo, new_neK h.ol hat h.ml, h.dl, new_neK h.oo hat h.mo, (h.below.alloc h.below.size ob).grown hg (by have := h.below.size; simp; omega) (fun q hq => (h.om.lt q hq).1)⟩
theorem BkS.appO {w W W' : World} {lv m o o' : Value} {l M O O' : List KeyR} {ob : Obj} (h : BkS w W lv m o l M O) (hg : (W.alloc ob).grownBy W' o.ownBlock) (h' : OwnK W' w.heap.size o' O') (hat : o'.ownBlock = o.ownBlock ∨ o'.ownBlock = Option.some (W.heap.size + 1)) : BkS w W' lv m o' l M O' :=
  ⟨keptK h.ol hg h.dl, keptK h.om hg (sym_ne h.mo), h', h.ml, new_neK h.ol hat h.dl, sym_ne (new_neK h.om hat (sym_ne h.mo)), (h.below.alloc h.below.size ob).grown hg (by have := h.below.size; simp; omega) (fun q hq => (h.oo.lt q hq).1)⟩
/-- What stands while the opened note is looked at. -/
def BkX (w W : World) (m : Nat) (t : ByteArray) (S R : List SigR) (vg vr : Value) (b : Nat) (mv ov : Value) (M O : List KeyR) : Prop :=
  Below w.heap.size w W ∧ HeldO W m t S R vg vr b ∧ KeysAt W mv M ∧ KeysAt W ov O ∧ PTab W
theorem BkX.next {w W W' : World} {m b : Nat} {t : ByteArray} {S R : List SigR} {vg vr mv ov : Value} {M O : List KeyR} (h : BkX w W m t S R vg vr b mv ov M O) (hb : Below W.heap.size W W') : BkX w W' m t S R vg vr b mv ov M O :=
  ⟨h.1.trans (hb.mono h.1.size), h.2.1.next hb, h.2.2.1.below hb, h.2.2.2.1.below hb, h.2.2.2.2.next hb⟩
theorem BkX.drew {w W : World} {m b : Nat} {t : ByteArray} {S R : List SigR} {vg vr mv ov : Value} {M O : List KeyR} (h : BkX w W m t S R vg vr b mv ov M O) : BkX w W.drew m t S R vg vr b mv ov M O := h.next (Below.refl _ _).drew
theorem BkX.drewN {w W : World} {m b : Nat} {t : ByteArray} {S R : List SigR} {vg vr mv ov : Value} {M O : List KeyR} (h : BkX w W m t S R vg vr b mv ov M O) (n : Nat) : BkX w (W.drewN n) m t S R vg vr b mv ov M O := h.next (below_drewN (Below.refl _ _) n)
theorem BkX.cells {w W : World} {m b : Nat} {t : ByteArray} {S R : List SigR} {vg vr mv ov : Value} {M O : List KeyR} (h : BkX w W m t S R vg vr b mv ov M O) : W.cell? ⟨m, 0, Option.none⟩ = Option.some (.string t) ∧ W.cell? ⟨m, 1, Option.none⟩ = Option.some vg ∧ W.cell? ⟨m, 2, Option.none⟩ = Option.some vr := by
  have n0 := h.2.1.1.cell 0; have n1 := h.2.1.1.cell 1; have n2 := h.2.1.1.cell 2
  simp only [List.getElem?_toArray, List.getElem?_cons_zero, List.getElem?_cons_succ] at n0 n1 n2
  exact ⟨n0, n1, n2⟩
/-- Is a key's bit set? -/
def kbF (known : Int) (i : Nat) : Bool := bits .and .i64 (known / 2 ^ i) 1 == 1
set_option maxRecDepth 100000 in
set_option maxHeartbeats 4000000 in
theorem lawBack_any (s : ByteArray) (v : Value) (ks : List KeyR) (known added : Int) (w : World) (hs : s.size ≤ 1048576) (hks : ∀ k ∈ ks, k.nm.size ≤ 1048576 ∧ k.sc.size ≤ 1048576) (hn : ks.length ≤ 1048576) (hV : KeysAt w v ks) (hP : PTab w) (hU : Lib.Utf8Tabs 3 4 w) (hM : MaxOk w) :
    Calls Tryd.prog 10 #[.string s, v, .int .i64 known, .int .i64 added] w fun e W' => e = .returned (.bool true) ∧ Below w.heap.size w W' := by
  have hli := lined_any s w (by omega)
  have hsg := fun W (h : KeysAt W v ks) => signers_any v ks W (fun k hk => by have := hks k hk; omega) (by omega) h
  obtain ⟨hok, hsc, hl1⟩ := signersF_ok (ks := ks) (m := 1048576) (by omega) (fun k hk => (hks k hk).2)
  have hgo := linedB_goes s
  have hts := linedB_size s
  obtain ⟨h8, hnm, hpw⟩ := hok
  obtain ⟨a7, ha7, ha7l⟩ := and_small added 7 (by omega)
  have ha7' : bits .and .i64 added 7 = (a7 : Int) := ha7
  obtain ⟨A, c, rfl, -⟩ := id hV
  generalize hl : signersF ks = l at *
  generalize ht : linedB s = t at *
  have HL := hide hli; have HS := hide hsg; have HV := hide hV; have HT := hide (And.intro hP (And.intro hU hM)); have HPL := hide (And.intro hgo (And.intro hts (And.intro hnm (And.intro hpw hsc))))
  clear hli hsg hV hP hU hM hgo hts hnm hpw hsc hl ht hks ha7
  go_enter Tryd.func10, Tryd.ntmps10
  go_wp2_with fail
  refine (unhide HL).mono ?_
  rintro e w1 ⟨rfl, hb1⟩
  have hV1 := (unhide HV).below hb1
  have H1 := hide hb1; clear hb1 HL
  go_wp2_with fail
  refine ((unhide HS) w1 hV1).mono ?_
  rintro e w2 ⟨v2, rfl, hO2, hb2⟩
  obtain ⟨g2, c2, rfl, hg2, hg2l, hc2⟩ := hO2.some (fun e => by rw [e] at hl1; simp at hl1)
  have hb2' := (unhide H1).trans (hb2.mono (unhide H1).size)
  have hO2' := hO2.mono (unhide H1).size
  have H2 := hide (And.intro hO2' hb2'); clear hO2 hO2' hb2 hb2' hV1 H1 HS
  go_upto_if 34 with fail
  go_cut [11] (fun s11 wx => wx = w2 ∧ ∃ n : Nat, s11 = .int .i64 (n : Int) ∧ 1 ≤ n ∧ n ≤ l.length)
  case first =>
    by_cases hgt : l.length < 1 + a7
    · have t1 : (l.length : Int) < 1 + (a7 : Int) := by omega
      go_wp2_with fail
      go_meet
      case rel => exact ⟨rfl, l.length, rfl, hl1, Nat.le_refl _⟩
    · have t1 : ¬ (l.length : Int) < 1 + (a7 : Int) := by omega
      go_wp2_with fail
      go_meet
      case rel => exact ⟨rfl, 1 + a7, by go_num, by omega, by omega⟩
  case rest =>
    obtain ⟨rfl, n, rfl, hn1, hnl⟩ := hcut
    have hcap : (n : Int) ≤ (c2 : Int) := by omega
    have hn0 : (0 : Int) ≤ (n : Int) := by omega
    obtain ⟨hgo, hts, hnm, hpw, hsc⟩ := unhide HPL
    have hS2 := (unhide H2).1.keys n c2 hnl
    have hlt : (l.take n).length = n := by rw [List.length_take]; omega
    have hscs : ∀ k ∈ l, k.nm.size ≤ 1048576 ∧ k.sc.size ≤ 1048576 := fun k hk => ⟨by have := nameOk_size (hnm k hk); omega, hsc k hk⟩
    have hsn := signN_any t (.slice (some ⟨g2, 0, none⟩) n c2) (l.take n) wc (by omega) (fun k hk => by have := hscs k (List.mem_of_mem_take hk); omega) (by omega) hS2 ((unhide HT).1.next (unhide H2).2) (Tabs.below (unhide HT).2.1 (unhide H2).2 (Tabs.lt3 (unhide HT).2.1) (Tabs.lt4 (unhide HT).2.1))
    rw [sign_all hgo hts (fun k hk => hnm k (List.mem_of_mem_take hk)) (hpw.sublist (List.take_sublist _ _)) (by omega) (by omega)] at hsn
    have HSN := hide hsn; have HSC := hide hscs; clear hsn hscs hgo hts hnm hpw hsc hS2
    go_wp2_with fail
    refine (unhide HSN).mono ?_
    rintro e w3 ⟨rfl, hb3⟩
    have hO3 := (unhide H2).1.below hb3
    have hb3' := (unhide H2).2.trans (hb3.mono (unhide H2).2.size)
    have H3 := hide (And.intro hO3 hb3'); clear hO3 hb3 hb3' HSN H2
    go_wp2_with fail
    refine (numl_any 0 _ (by decide)).mono ?_
    rintro e w4 ⟨rfl, rfl⟩
    go_wp2_with fail
    go_loopw [12, 14] (fun b i wr => ∃ k : Nat, i = .int .i64 k ∧ n ≤ k ∧ k ≤ l.length ∧ b = .string (writB t (sgs t (l.take k))) ∧ OwnK wr w.heap.size (.slice (some ⟨g2, 0, none⟩) l.length c2) l ∧ Below w.heap.size w wr) (fun _ i _ => l.length - (RowKit.intOf i).toNat)
    case atStart => exact ⟨n, rfl, Nat.le_refl _, hnl, rfl, (unhide H3).1, (unhide H3).2⟩
    case round =>
      clear H3
      obtain ⟨k, rfl, hk1, hk, rfl, hO, hb⟩ := hrel
      have HX := hide (And.intro hO hb); clear hO hb
      rcases Nat.lt_or_ge k l.length with hlk | hgk
      · have tk : (k : Int) < (l.length : Int) := by omega
        have k0 : (0 : Int) ≤ (k : Int) := by omega
        obtain ⟨hgo, hts, hnm, hpw, hsc⟩ := unhide HPL
        obtain ⟨g', hg', c0, c1⟩ := (unhide HX).1.at_ k hlk
        injection hg' with hg'
        injection hg' with hg'
        subst hg'
        have htk : l.take (k + 1) = l.take k ++ [l[k]] := List.take_succ_eq_append_getElem hlk
        have hnm1 : ∀ x ∈ l.take (k + 1), nameOk x.nm = true := fun x hx => hnm x (List.mem_of_mem_take hx)
        have hpw1 : (l.take (k + 1)).Pairwise (fun x y => x.nm ≠ y.nm) := hpw.sublist (List.take_sublist _ _)
        have hl0 : (l.take k).length = k := by rw [List.length_take]; omega
        have hl1' : (l.take (k + 1)).length = k + 1 := by rw [List.length_take]; omega
        have ha1 := add_new (t := t) (l := l.take k) (x := l[k]) hgo hts (by rw [← htk]; exact hnm1) (by rw [← htk]; exact hpw1) (by omega) (by omega)
        have ha2 := add_again (t := t) (l := l.take (k + 1)) (x := l[k]) hgo hts hnm1 hpw1 (by rw [htk]; exact List.mem_append_right _ (List.mem_singleton.2 rfl)) (by omega)
        have hm := writB_more t (l.take k) l[k]
        rw [← htk] at ha1 hm
        have hsz := writL_len (t := t) (l := l.take (k + 1)) hts hnm1 (by omega)
        rw [← writB_size] at hsz
        have hkk := unhide HSC _ (List.getElem_mem hlk)
        generalize hb' : writB t (sgs t (l.take k)) = b at *
        generalize hc' : writB t (sgs t (l.take (k + 1))) = c3 at *
        generalize l[k] = key at *
        have hx1 := fun W (h1 : PTab W) h2 (h3 : MaxOk W) => add_any b key W (by omega) (by omega) h1 h2 h3
        have hx2 := fun W (h1 : PTab W) h2 (h3 : MaxOk W) => add_any c3 key W (by omega) (by omega) h1 h2 h3
        rw [ha1] at hx1
        rw [ha2] at hx2
        obtain ⟨kn, ksc⟩ := key
        unfold keyV at hx1 hx2
        simp only at c0 c1
        have q1 : (b.size : Int) < (c3.size : Int) := by omega
        have q2 : ¬ (c3.size : Int) ≤ (b.size : Int) := by omega
        have q3 : (b.size : Int) ≤ (c3.size : Int) := by omega
        have q4 : (c3.toList == c3.toList) = true := beq_self_eq_true _
        have q5 : (b.toList == b.toList) = true := beq_self_eq_true _
        have q6 : (!(c3.extract 0 b.size).toList == b.toList) = false := by rw [hm.2, q5]; rfl
        have q7 : ((c3.extract 0 b.size).toList == b.toList) = true := by rw [hm.2, q5]
        have HX1 := hide hx1; have HX2 := hide hx2; have HBC := hide (And.intro hb' hc')
        clear hx1 hx2 ha1 ha2 hm htk hnm1 hpw1 hgo hts hnm hpw hsc hl0 hl1' hb' hc' hkk hsz
        go_wp2_with fail
        refine ((unhide HX1) _ ((unhide HT).1.next (unhide HX).2) (Tabs.below (unhide HT).2.1 (unhide HX).2 (Tabs.lt3 (unhide HT).2.1) (Tabs.lt4 (unhide HT).2.1)) ((unhide HT).2.2.below (unhide HX).2 (unhide HT).2.2.lt)).mono ?_
        rintro e w5 ⟨rfl, hb5⟩
        have hO5 := (unhide HX).1.below hb5
        have hb5' := (unhide HX).2.trans (hb5.mono (unhide HX).2.size)
        obtain ⟨g', hg', c0', c1'⟩ : ∃ g', g2 = g' ∧ w5.cell? ⟨g', k * 2, none⟩ = some (.string kn) ∧ w5.cell? ⟨g', k * 2 + 1, none⟩ = some (.string ksc) :=
          ⟨g2, rfl, (hb5.cell (p := ⟨g2, k * 2, none⟩) (World.block_lt_of_cell? _ _ c0)).trans c0, (hb5.cell (p := ⟨g2, k * 2 + 1, none⟩) (World.block_lt_of_cell? _ _ c1)).trans c1⟩
        subst hg'
        have H5 := hide (And.intro hO5 hb5'); clear hO5 hb5 hb5' c0 c1 HX HX1
        go_wp2_with fail
        refine ((unhide HX2) _ ((unhide HT).1.next (unhide H5).2) (Tabs.below (unhide HT).2.1 (unhide H5).2 (Tabs.lt3 (unhide HT).2.1) (Tabs.lt4 (unhide HT).2.1)) ((unhide HT).2.2.below (unhide H5).2 (unhide HT).2.2.lt)).mono ?_
        rintro e w6 ⟨rfl, hb6⟩
        have H6 := hide (And.intro ((unhide H5).1.below hb6) ((unhide H5).2.trans (hb6.mono (unhide H5).2.size))); clear hb6 c0' c1' H5 HX2
        go_wp2_with fail
        refine (numl_any 0 _ (by decide)).mono ?_
        rintro e w7 ⟨rfl, rfl⟩
        go_wp2_with fail
        refine (numl_any 0 _ (by decide)).mono ?_
        rintro e w8 ⟨rfl, rfl⟩
        go_wp2_with fail
        go_roundw
        case rel => exact ⟨k + 1, by go_num, by omega, by omega, by rw [(unhide HBC).2], (unhide H6).1, (unhide H6).2⟩
        case measure => simp [RowKit.intOf]; omega
      · have tk : ¬ (k : Int) < (l.length : Int) := by omega
        rw [List.take_of_length_le hgk]
        have hn' : ∃ nb, nb = writB t (sgs t l) := ⟨_, rfl⟩
        obtain ⟨nb, hnb⟩ := hn'
        rw [← hnb]
        have HNB := Lib.hid hnb; clear hnb
        go_wp2_with fail
        have hB0 : BkS w wr (.slice (some ⟨g2, 0, none⟩) l.length c2) (.slice none 0 0) (.slice none 0 0) l [] [] :=
          ⟨(unhide HX).1, OwnK.nil _ _, OwnK.nil _ _, fun k h => by simp [Value.ownBlock] at h, fun k h => by simp [Value.ownBlock] at h, fun k h => by simp [Value.ownBlock] at h, (unhide HX).2⟩
        have HB0 := hide hB0; clear hB0 HX
        go_loopw [19, 20, 21] (fun m o i W => ∃ k : Nat, i = .int .i64 k ∧ k ≤ l.length ∧ BkS w W (.slice (some ⟨g2, 0, none⟩) l.length c2) m o l (pick (kbF known) 0 (l.take k)) (pick (fun j => !kbF known j) 0 (l.take k))) (fun _ _ i _ => l.length - (RowKit.intOf i).toNat)
        case atStart => exact ⟨0, rfl, by omega, unhide HB0⟩
        case round =>
          clear HB0
          obtain ⟨k2, rfl, hk2, hBk⟩ := hrel
          rcases Nat.lt_or_ge k2 l.length with hlk2 | hgk2
          · have tk2 : (k2 : Int) < (l.length : Int) := by omega
            have k20 : (0 : Int) ≤ (k2 : Int) := by omega
            obtain ⟨g', hg', c0, c1⟩ := hBk.ol.at_ k2 hlk2
            injection hg' with hg'
            injection hg' with hg'
            subst hg'
            have htk : l.take (k2 + 1) = l.take k2 ++ [l[k2]] := List.take_succ_eq_append_getElem hlk2
            have hl0 : (l.take k2).length = k2 := by rw [List.length_take]; omega
            have hp1 : Hid (pick (kbF known) 0 (l.take (k2 + 1)) = pick (kbF known) 0 (l.take k2) ++ if kbF known k2 = true then [l[k2]] else []) := by rw [Hid, htk, pick_snoc, hl0, Nat.zero_add]
            have hp2 : Hid (pick (fun j => !kbF known j) 0 (l.take (k2 + 1)) = pick (fun j => !kbF known j) 0 (l.take k2) ++ if (!kbF known k2) = true then [l[k2]] else []) := by rw [Hid, htk, pick_snoc, hl0, Nat.zero_add]
            have hz1 : (pick (kbF known) 0 (l.take k2)).length ≤ 8 := by have := pick_len (kbF known) (l.take k2) 0; omega
            have hz2 : (pick (fun j => !kbF known j) 0 (l.take k2)).length ≤ 8 := by have := pick_len (fun j => !kbF known j) (l.take k2) 0; omega
            clear htk hl0
            generalize pick (kbF known) 0 (l.take k2) = M at *
            generalize pick (fun j => !kbF known j) 0 (l.take k2) = O at *
            generalize l[k2] = key at *
            obtain ⟨kn, ksc⟩ := key
            simp only at c0 c1
            have HBk := hide hBk; clear hBk
            cases hkb : kbF known k2 with
            | true =>
              rw [hkb] at hp1 hp2
              have hkb' : (bits .and .i64 (known / 2 ^ k2) 1 == 1) = true := hkb
              have hp1' : Hid (pick (kbF known) 0 (l.take (k2 + 1)) = M ++ [⟨kn, ksc⟩]) := by rw [Hid, hp1.out, if_pos rfl]
              have hp2' : Hid (pick (fun j => !kbF known j) 0 (l.take (k2 + 1)) = O) := by rw [Hid, hp2.out, if_neg (by decide), List.append_nil]
              clear hp1 hp2 hkb
              go_wp2_with (at_builtin; go_must (refine wpList_appK1 wr rfl _ _ rfl (y := ⟨kn, ksc⟩) (unhide HBk).om rfl rfl (by omega) (unhide HBk).below.size ?_); intro v7 w7 hO7 hg7 hat7; have h7 := (unhide HBk).appM hg7 hO7 hat7; have H7 := hide h7; clear h7 hO7 hg7 hat7)
              go_roundw
              case rel => exact ⟨k2 + 1, by go_num, by omega, by rw [hp1'.out, hp2'.out]; exact unhide H7⟩
              case measure => simp [RowKit.intOf]; omega
            | false =>
              rw [hkb] at hp1 hp2
              have hkb' : (bits .and .i64 (known / 2 ^ k2) 1 == 1) = false := hkb
              have hp1' : Hid (pick (kbF known) 0 (l.take (k2 + 1)) = M) := by rw [Hid, hp1.out, if_neg (by decide), List.append_nil]
              have hp2' : Hid (pick (fun j => !kbF known j) 0 (l.take (k2 + 1)) = O ++ [⟨kn, ksc⟩]) := by rw [Hid, hp2.out, if_pos (by rfl)]
              clear hp1 hp2 hkb
              go_wp2_with (at_builtin; go_must (refine wpList_appK1 wr rfl _ _ rfl (y := ⟨kn, ksc⟩) (unhide HBk).oo rfl rfl (by omega) (unhide HBk).below.size ?_); intro v7 w7 hO7 hg7 hat7; have h7 := (unhide HBk).appO hg7 hO7 hat7; have H7 := hide h7; clear h7 hO7 hg7 hat7)
              go_roundw
              case rel => exact ⟨k2 + 1, by go_num, by omega, by rw [hp1'.out, hp2'.out]; exact unhide H7⟩
              case measure => simp [RowKit.intOf]; omega
          · have tk2 : ¬ (k2 : Int) < (l.length : Int) := by omega
            rw [List.take_of_length_le hgk2] at hBk
            obtain ⟨hgo, hts, hnm, hpw, hsc⟩ := unhide HPL
            have hox := openX_pick (t := t) (l := l) (kbF known) hgo hts hnm hpw hl1 (by omega)
            have hz1 : (pick (kbF known) 0 l).length ≤ 8 := by have := pick_len (kbF known) l 0; omega
            have hz2 : (pick (fun j => !kbF known j) 0 l).length ≤ 8 := by have := pick_len (fun j => !kbF known j) l 0; omega
            have hM8 : ∀ k ∈ pick (kbF known) 0 l, k.nm.size ≤ 1099511627776 ∧ k.sc.size ≤ 1099511627776 := fun k hk => by
              obtain ⟨j, hj, -, rfl⟩ := (pick_mem _ _ _ _).1 hk
              have := unhide HSC _ (List.getElem_mem hj); omega
            have hO8 : ∀ k ∈ pick (fun j => !kbF known j) 0 l, k.nm.size ≤ 1099511627776 ∧ k.sc.size ≤ 1099511627776 := fun k hk => by
              obtain ⟨j, hj, -, rfl⟩ := (pick_mem _ _ _ _).1 hk
              have := unhide HSC _ (List.getElem_mem hj); omega
            have hnbz : nb.size ≤ 65536 := by rw [HNB.out, writB_size]; exact writL_len hts hnm (by omega)
            rw [← HNB.out] at hox
            generalize pick (kbF known) 0 l = M at *
            generalize pick (fun j => !kbF known j) 0 l = O at *
            have hop := open_any nb u19 M wr (by omega) hM8 (by omega) hBk.om.toKeys ((unhide HT).1.next hBk.below) (Tabs.below (unhide HT).2.1 hBk.below (Tabs.lt3 (unhide HT).2.1) (Tabs.lt4 (unhide HT).2.1)) ((unhide HT).2.2.below hBk.below (unhide HT).2.2.lt)
            have HOP := hide hop; have HBk := hide hBk; have HMO := hide (And.intro hM8 hO8); have HOX := Lib.hid hox
            clear hop hBk hM8 hO8 hox hgo hts hnm hpw hsc
            obtain ⟨Am, cm, rfl⟩ := (unhide HBk).om.slice
            obtain ⟨Ao, co, rfl⟩ := (unhide HBk).oo.slice
            go_wp2_with fail
            refine (unhide HOP).mono ?_
            rintro e w9 ⟨hR, hb9⟩
            obtain ⟨vg, vr, rfl, hog, hor, -⟩ := hR.parts
            rw [HOX.out] at hog hor ⊢
            by_cases hM0 : M.length = 0
            · rw [if_pos hM0] at hog hor ⊢
              obtain ⟨Bg, dg, rfl⟩ := hog.slice
              obtain ⟨Br, dr, rfl⟩ := hor.slice
              have h00 : ((M.length : Int) == 0) = true := by rw [hM0]; rfl
              have hw9 := ((unhide HBk).below.trans (hb9.mono (unhide HBk).below.size)).alloc (Nat.le_trans (unhide HBk).below.size hb9.size) (.cells #[.string ⟨#[]⟩, .slice Bg 0 dg, .slice Br 0 dr] 53)
              have H9 := hide hw9; clear hw9 hog hor hb9 hM0
              simp only [List.length_nil]
              go_wp2_with fail
              refine (numl_any 202 _ (by decide)).mono ?_
              rintro e w10 ⟨rfl, hw10⟩
              have hN := Blk.new w9 53 #[.string ⟨#[]⟩, .slice Bg 0 dg, .slice Br 0 dr]
              generalize w9.heap.size = g22 at *
              generalize (w9.alloc (.cells #[.string ⟨#[]⟩, .slice Bg 0 dg, .slice Br 0 dr] 53)) = w9' at *
              subst hw10
              have n0 := hN.cell 0
              simp only [List.getElem?_toArray, List.getElem?_cons_zero, List.getElem?_cons_succ] at n0
              clear hN
              go_wp2_with fail
              go_ret
              exact ⟨rfl, unhide H9⟩
            · rw [if_neg hM0] at hog hor ⊢
              have h00 : ((M.length : Int) == 0) = false := by rw [beq_eq_false_iff_ne]; omega
              obtain ⟨Bg, dg, rfl⟩ := hog.slice
              obtain ⟨Br, dr, rfl⟩ := hor.slice
              have hb10 : Below w9.heap.size w9 (w9.alloc (.cells #[.string t, .slice Bg (sgs t M).length dg, .slice Br (sgs t O).length dr] 53)) := (Below.refl _ _).alloc (Nat.le_refl _) _
              have hb11 := hb9.trans (hb10.mono hb9.size)
              have hw9 := (unhide HBk).below.trans (hb11.mono (unhide HBk).below.size)
              have hH : HeldO (w9.alloc (.cells #[.string t, .slice Bg (sgs t M).length dg, .slice Br (sgs t O).length dr] 53)) w9.heap.size t (sgs t M) (sgs t O) (.slice Bg (sgs t M).length dg) (.slice Br (sgs t O).length dr) wr.heap.size := ⟨Blk.new _ _ _, hog.below hb10, hor.below hb10⟩
              have H9 := hide (And.intro hw9 (And.intro hH (And.intro ((unhide HBk).om.toKeys.below hb11) (And.intro ((unhide HBk).oo.toKeys.below hb11) ((unhide HT).1.next hw9)))))
              clear hw9 hog hor hb9 hb10 hb11 hM0 hH
              have htt : (t.toList == t.toList) = true := beq_self_eq_true _
              go_wp2_with fail
              generalize w9.heap.size = g22 at *
              generalize (w9.alloc (.cells #[.string t, .slice Bg (sgs t M).length dg, .slice Br (sgs t O).length dr] 53)) = w9' at *
              have hX9 : BkX w w9' g22 t (sgs t M) (sgs t O) (.slice Bg (sgs t M).length dg) (.slice Br (sgs t O).length dr) wr.heap.size (.slice Am M.length cm) (.slice Ao O.length co) M O := unhide H9
              obtain ⟨n0, n1, n2⟩ := hX9.cells
              have htz : t.size ≤ 20001 := (unhide HPL).2.1
              have hs1 : KeysAt w9'.drew (.slice Am M.length cm) M := hX9.drew.2.2.1
              have hp1 : PTab w9'.drew := hX9.drew.2.2.2.2
              have hsm : ∀ W, KeysAt W (.slice Am M.length cm) M → PTab W → Calls Tryd.prog 34 #[.slice Am M.length cm, .string t] W fun e w' => ∃ v', e = .returned v' ∧ OwnG w' W.heap.size v' (sgs t M) ∧ Below W.heap.size W w' := fun W h hp => sigs_any t (.slice Am M.length cm) M W (by omega) (unhide HMO).1 (by omega) h hp
              have hso : ∀ W, KeysAt W (.slice Ao O.length co) O → PTab W → Calls Tryd.prog 34 #[.slice Ao O.length co, .string t] W fun e w' => ∃ v', e = .returned v' ∧ OwnG w' W.heap.size v' (sgs t O) ∧ Below W.heap.size W w' := fun W h hp => sigs_any t (.slice Ao O.length co) O W (by omega) (unhide HMO).2 (by omega) h hp
              have hl1 := sgs_length t M; have hl2 := sgs_length t O
              have HX9 := hide hX9; have HSM := hide hsm; have HSO := hide hso; have HLL := hide (And.intro hl1 hl2)
              clear hX9 hsm hso hl1 hl2 H9
              have hsM : Hid (M.map (keySig t) = sgs t M) := rfl
              have hsO : Hid (O.map (keySig t) = sgs t O) := rfl
              have hMz : (sgs t M).length ≤ 8 := by rw [sgs_length]; omega
              have hOz : (sgs t O).length ≤ 8 := by rw [sgs_length]; omega
              have hMz2 : (sgs t M).length ≤ 1099511627776 := by omega
              have hOz2 : (sgs t O).length ≤ 1099511627776 := by omega
              go_region_held3 (fun W => W.cell? ⟨g22, 0, none⟩ = some (.string t) ∧ W.cell? ⟨g22, 1, none⟩ = some (.slice Bg (sgs t M).length dg) ∧ W.cell? ⟨g22, 2, none⟩ = some (.slice Br (sgs t O).length dr)) (refine ⟨?_, ?_, ?_⟩ <;> assumption) (first
                | (go_at_call 13; refine (numl_any 0 _ (by decide)).mono ?_; rintro e wn ⟨rfl, rfl⟩)
                | (go_at_call 34; first
                    | ((with_reducible refine ((unhide HSM) w9'.drew hs1 hp1).mono ?_); rintro e wA ⟨vA, rfl, hOA, hbA⟩; obtain ⟨AA, cA, rfl⟩ := hOA.slice; have hXA := (unhide HX9).drew.next hbA; obtain ⟨nA0, nA1, nA2⟩ := hXA.cells; have hgA := hXA.2.1.2.1; have HXA := hide (And.intro hXA hOA); clear hXA hbA)
                    | ((with_reducible refine ((unhide HSO) (wA.drewN ndA) hs2 hp2).mono ?_); rintro e wB ⟨vB, rfl, hOB, hbB⟩; obtain ⟨AB, cB, rfl⟩ := hOB.slice; have hXB := ((unhide HXA).1.drewN ndA).next hbB; obtain ⟨nB0, nB1, nB2⟩ := hXB.cells; have hgB := hXB.2.1.2.2; have HXB := hide (And.intro hXB hOB); clear hXB hbB))
                | (go_at_call 33; first
                    | ((with_reducible refine (same_eq _ _ (sgs t M) wA _ _ hMz2 hgA hOA).mono ?_); rintro e wS ⟨rfl, ndA, rfl⟩; have hs2 : KeysAt (wA.drewN ndA) (.slice Ao O.length co) O := ((unhide HXA).1.drewN ndA).2.2.2.1; have hp2 : PTab (wA.drewN ndA) := ((unhide HXA).1.drewN ndA).2.2.2.2; have nS0 : (wA.drewN ndA).cell? ⟨g22, 0, none⟩ = some (.string t) := nA0; have nS1 : (wA.drewN ndA).cell? ⟨g22, 1, none⟩ = some (.slice Bg (sgs t M).length dg) := nA1; have nS2 : (wA.drewN ndA).cell? ⟨g22, 2, none⟩ = some (.slice Br (sgs t O).length dr) := nA2)
                    | ((with_reducible refine (same_eq _ _ (sgs t O) wB _ _ hOz2 hgB hOB).mono ?_); rintro e wS ⟨rfl, ndB, rfl⟩; have nT0 : (wB.drewN ndB).cell? ⟨g22, 0, none⟩ = some (.string t) := nB0; have nT1 : (wB.drewN ndB).cell? ⟨g22, 1, none⟩ = some (.slice Bg (sgs t M).length dg) := nB1; have nT2 : (wB.drewN ndB).cell? ⟨g22, 2, none⟩ = some (.slice Br (sgs t O).length dr) := nB2)))
              go_wp2_with fail
              go_ret
              exact ⟨rfl, ((unhide HXB).1.drewN ndB).1⟩
set_option maxRecDepth 100000 in
theorem noteBack_walk {H : Type} {enc : TypeId × Value → H} (W : World) (base : Nat) (v0 : Value) (d0 : DataW H) (p0 : List MemPlace) (v1 : Value) (d1 : DataW H) (p1 : List MemPlace) (v2 : Value) (d2 : DataW H) (p2 : List MemPlace) (v3 : Value) (d3 : DataW H) (p3 : List MemPlace) (o0 : Value.okWide Tryd.prog W .any base 9 v0) (h0 : DataW.Trod enc Tryd.prog W 0 (fun _ => true) true 9 v0 d0 p0) (l0 : ∀ x ∈ p0, x.block < W.heap.size) (o1 : Value.okWide Tryd.prog W .any base 45 v1) (h1 : DataW.Trod enc Tryd.prog W 0 (fun _ => true) true 45 v1 d1 p1) (l1 : ∀ x ∈ p1, x.block < W.heap.size) (o2 : Value.okWide Tryd.prog W .any base 3 v2) (h2 : DataW.Trod enc Tryd.prog W 0 (fun _ => true) true 3 v2 d2 p2) (l2 : ∀ x ∈ p2, x.block < W.heap.size) (o3 : Value.okWide Tryd.prog W .any base 3 v3) (h3 : DataW.Trod enc Tryd.prog W 0 (fun _ => true) true 3 v3 d3 p3) (l3 : ∀ x ∈ p3, x.block < W.heap.size) (hz : (DataW.weightsEach Tryd.prog [9, 45, 3, 3] ([d0, d1, d2, d3] : List (DataW H))).all (· ≤ reachBytes) = true) (hk : Rows.uptoBulkAll ([d0, d1, d2, d3] : List (DataW H)) ≤ 1048576) (hL : laidMetH Tryd.prog Rows.noteBackUptoRow.laid W) (hsh : W.ShapedOpen Tryd.prog) :
    Calls Tryd.prog 10 #[v0, v1, v2, v3] W fun e W' => e = .returned (.bool true) ∧ Below W.heap.size W W' := by
  have hT := utf8_of (laidMet_plain (by kernel_rfl) hL) (.tail _ (.tail _ (.tail _ (.head _)))) (.tail _ (.tail _ (.head _)))
  have hP := sha_laidP (laid := Rows.noteBackUptoRow.laid) (by kernel_rfl) hL (.head _) (.tail _ (.head _))
  obtain ⟨s, rfl, rfl, -⟩ := Go.ChangeMaps.open_string Tryd.underlying9 o0 h0
  obtain ⟨ks, hV, hw⟩ := open_keys o1 h1
  obtain ⟨a, rfl, rfl, -, -⟩ := Go.ChangeShapes.open_int Tryd.underlying3 o2 h2
  obtain ⟨b, rfl, rfl, -, -⟩ := Go.ChangeShapes.open_int Tryd.underlying3 o3 h3
  simp only [Rows.uptoBulkAll, Rows.uptoBulk, Array.length_toList] at hk
  have hsz : s.data.size = s.size := rfl
  have hlen := keysW_len ks
  exact lawBack_any s v1 ks a b W (by omega) (fun k hk => by have := keysW_mem hk; omega) (by omega) hV hP hT (max_is hsh)
end Go.Proofs.YtfhaoamlagnpjaaDoor

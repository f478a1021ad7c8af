/-
  CONTRACTS of the law's helpers signers and sigs.
-/
import Derived.Test.YtfhaoamlagnpjaaDoorRows
import Derived.Deep.QuietTactic
import Derived.BigQuiet
import Derived.Deep.RegionHeld3
import Derived.Deep.RegionLaw
import Derived.Deep.DeepMust
import Derived.Outline
import Derived.Deep.CutRange
import Derived.Test.YtfhaoamlagnpjaaDoorGBase
import Derived.Test.YtfhaoamlagnpjaaDoorSNamed
import Derived.Test.YtfhaoamlagnpjaaDoorGKs
import Derived.Test.YtfhaoamlagnpjaaDoorGOp
import Derived.Test.YtfhaoamlagnpjaaDoorSOwner
import Derived.Test.YtfhaoamlagnpjaaDoorGRng
set_option linter.unusedVariables false
set_option linter.unusedSimpArgs false
namespace Go.Proofs.YtfhaoamlagnpjaaDoor
open Go.RowKit Go.Lib
/-- The first key. -/
def firstK : KeyR := ⟨⟨#[102, 105, 114, 115, 116]⟩, ⟨#[115]⟩⟩
def hasNm (acc : List KeyR) (n : ByteArray) : Bool := acc.any fun y => decide (y.nm = n)
def sgF : List KeyR → List KeyR → List KeyR
  | [], acc => acc
  | k :: r, acc => if 8 ≤ acc.length then acc else if hasNm acc (namedB k.nm) = true then sgF r acc else sgF r (acc ++ [⟨namedB k.nm, k.sc⟩])
/-- At most eight keys out of any, no two of one name. -/
def signersF (ks : List KeyR) : List KeyR := sgF ks [firstK]
theorem sgF_full : ∀ (ks acc : List KeyR), 8 ≤ acc.length → sgF ks acc = acc
  | [], _, _ => rfl
  | k :: r, acc, h => by rw [sgF, if_pos h]
/-- The signers are as they ought to be. -/
def SgOk (l : List KeyR) : Prop := l.length ≤ 8 ∧ (∀ k ∈ l, nameOk k.nm = true) ∧ l.Pairwise (fun x y => x.nm ≠ y.nm)
theorem sgF_ok (m : Nat) : ∀ (ks acc : List KeyR), SgOk acc → (∀ k ∈ acc, k.sc.size ≤ m) → (∀ k ∈ ks, k.sc.size ≤ m) → SgOk (sgF ks acc) ∧ (∀ k ∈ sgF ks acc, k.sc.size ≤ m) ∧ acc <+: sgF ks acc
  | [], acc, h, h1, _ => ⟨h, h1, List.prefix_refl _⟩
  | k :: r, acc, h, h1, h2 => by
    rw [sgF]
    split
    · exact ⟨h, h1, List.prefix_refl _⟩
    · split
      · exact sgF_ok m r acc h h1 (fun x hx => h2 x (List.mem_cons_of_mem _ hx))
      · rename_i hlen hno
        have hnew : SgOk (acc ++ [⟨namedB k.nm, k.sc⟩]) := by
          refine ⟨by simp; omega, fun x hx => ?_, ?_⟩
          · rcases List.mem_append.1 hx with hx | hx
            · exact h.2.1 x hx
            · simp at hx; subst hx; exact namedB_ok _
          · rw [List.pairwise_append]
            refine ⟨h.2.2, List.pairwise_singleton _ _, fun x hx y hy => ?_⟩
            simp at hy; subst hy
            intro e
            exact hno (by unfold hasNm; rw [List.any_eq_true]; exact ⟨x, hx, by simpa using e⟩)
        obtain ⟨a1, a2, a3⟩ := sgF_ok m r (acc ++ [⟨namedB k.nm, k.sc⟩]) hnew (fun x hx => by
          rcases List.mem_append.1 hx with hx | hx
          · exact h1 x hx
          · simp at hx; subst hx; exact h2 k (List.mem_cons_self ..)) (fun x hx => h2 x (List.mem_cons_of_mem _ hx))
        exact ⟨a1, a2, (List.prefix_append _ _).trans a3⟩
theorem firstK_ok : SgOk [firstK] := ⟨by simp, fun k hk => by simp at hk; subst hk; decide, List.pairwise_singleton _ _⟩
theorem signersF_ok {ks : List KeyR} {m : Nat} (hm : 1 ≤ m) (h : ∀ k ∈ ks, k.sc.size ≤ m) : SgOk (signersF ks) ∧ (∀ k ∈ signersF ks, k.sc.size ≤ m) ∧ 1 ≤ (signersF ks).length := by
  obtain ⟨a1, a2, a3⟩ := sgF_ok m ks [firstK] firstK_ok (fun k hk => by simp at hk; subst hk; exact hm) h
  exact ⟨a1, a2, a3.length_le⟩
theorem OwnK.slice {w : World} {base : Nat} {v : Value} {xs : List KeyR} (h : OwnK w base v xs) : ∃ A c, v = .slice A xs.length c := by
  rcases h.form with ⟨hv, he⟩ | ⟨g, cap, hv, -⟩
  · exact ⟨Option.none, 0, by rw [hv, he]; rfl⟩
  · exact ⟨_, cap, hv⟩
theorem below_two {W w2 : World} {p q : Addr} {u v : Value} (hb : Below W.heap.size W w2) (h : W.cell? p = some u ∧ W.cell? q = some v) : w2.cell? p = some u ∧ w2.cell? q = some v :=
  ⟨(hb.cell (World.block_lt_of_cell? W _ h.1)).trans h.1, (hb.cell (World.block_lt_of_cell? W _ h.2)).trans h.2⟩
theorem OwnK.at_ {w : World} {base n c : Nat} {A : Option Addr} {xs : List KeyR} (h : OwnK w base (.slice A n c) xs) (j : Nat) (hj : j < xs.length) : ∃ g, A = Option.some ⟨g, 0, Option.none⟩ ∧ w.cell? ⟨g, j * 2, Option.none⟩ = Option.some (.string xs[j].nm) ∧ w.cell? ⟨g, j * 2 + 1, Option.none⟩ = Option.some (.string xs[j].sc) := by
  rcases h.form with ⟨_, he⟩ | ⟨g, cap, hv, h1, h2, h3⟩
  · rw [he] at hj; simp at hj
  · injection hv with e1 e2 e3
    subst e1 e2 e3
    exact ⟨g, rfl, h.cell j 0 hj (by omega), h.cell j 1 hj (by omega)⟩
theorem hasNm_step {acc : List KeyR} {j : Nat} (hj : j < acc.length) (x : ByteArray) : hasNm (acc.take (j + 1)) x = (hasNm (acc.take j) x || decide (acc[j].nm = x)) := by
  unfold hasNm
  rw [List.take_succ_eq_append_getElem hj, List.any_append]
  simp
/-- A key in a block of its own beside the list under way. -/
def SgCut (w : World) (n s : ByteArray) (v : Value) (acc : List KeyR) (s5 : Value) (wx : World) : Prop :=
  ∃ g5 : Nat, s5 = .pointer (some ⟨g5, 0, none⟩) ∧ Blk wx g5 27 #[.string n, .string s] ∧ OwnK wx w.heap.size v acc ∧ Below w.heap.size w wx
theorem sg_A {w wo w2 : World} {v : Value} {acc : List KeyR} (hO : OwnK wo w.heap.size v acc) (hb : Below w.heap.size w wo) (hb2' : Below wo.drew.heap.size wo.drew w2) (n s : ByteArray) :
    SgCut w n s v acc (.pointer (some ⟨w2.heap.size, 0, none⟩)) (w2.alloc (.cells #[.string n, .string s] 27)) :=
  have hb2 : Below wo.heap.size wo w2 := ((Below.refl wo.heap.size wo).drew).trans hb2'
  ⟨_, rfl, Blk.new _ _ _, (hO.below hb2).alloc _, (hb.trans (hb2.mono hb.size)).alloc (Nat.le_trans hb.size hb2.size) _⟩
theorem sg_B {w wo w2 : World} {v : Value} {acc : List KeyR} {o : Obj} (hO : OwnK wo w.heap.size v acc) (hb : Below w.heap.size w wo) (hb2' : Below (wo.alloc o).drew.heap.size (wo.alloc o).drew w2) (hN : Blk w2 wo.heap.size 27 #[.string ⟨#[]⟩, .string ⟨#[]⟩]) (n s : ByteArray) :
    SgCut w n s v acc (.pointer (some ⟨wo.heap.size, 0, none⟩)) ((w2.setCell ⟨wo.heap.size, 0, none⟩ (.string n)).setCell ⟨wo.heap.size, 1, none⟩ (.string s)) := by
  have hb2 : Below (wo.alloc o).heap.size (wo.alloc o) w2 := ((Below.refl (wo.alloc o).heap.size (wo.alloc o)).drew).trans hb2'
  have hO2 := (hO.alloc o).below hb2
  have hne : v.ownBlock ≠ some wo.heap.size := fun e => by have := (hO.lt _ e).2; omega
  refine ⟨_, rfl, blk2_store hN _ _, ?_, below2_store ((hb.alloc hb.size o).trans (hb2.mono (by have := hb.size; simp; omega))) hb.size _ _⟩
  exact World.ownsRow.kept (World.ownsRow.kept hO2 (row := some wo.heap.size) (grownBy_setCell' _ _ _) (.inr hne)) (row := some wo.heap.size) ⟨rfl, rfl, rfl, by simp [World.setCell], fun i _ hne => Below.heap_setCell _ _ _ i (fun e => hne (by rw [e]))⟩ (.inr hne)
set_option maxRecDepth 100000 in
set_option maxHeartbeats 4000000 in
theorem signers_any (v : Value) (ks : List KeyR) (w : World) (hks : ∀ k ∈ ks, k.nm.size ≤ 1099511627776 ∧ k.sc.size ≤ 1099511627776) (hn : ks.length ≤ 1099511627776) (hV : KeysAt w v ks) :
    Calls Tryd.prog 32 #[v] w fun e w' => ∃ v', e = .returned v' ∧ OwnK w' w.heap.size v' (signersF ks) ∧ Below w.heap.size w w' := by
  obtain ⟨A, c, rfl, -⟩ := id hV
  have HKS := hide hks; have HV := hide hV; clear hks hV
  go_enter Tryd.func32, Tryd.ntmps32
  go_wp2_with fail
  have hO0 : OwnK (w.alloc (.cells #[.string ⟨#[102, 105, 114, 115, 116]⟩, .string ⟨#[115]⟩] 27)) w.heap.size (.slice (some ⟨w.heap.size, 0, none⟩) 1 1) [firstK] := by
    refine ⟨rfl, .inr ⟨w.heap.size, 1, #[.string ⟨#[102, 105, 114, 115, 116]⟩, .string ⟨#[115]⟩], rfl, Nat.le_refl _, Blk.new _ _ _, Nat.le_refl _, by simp [maxLen], rfl, rfl⟩⟩
  have hb0 : Below w.heap.size w (w.alloc (.cells #[.string ⟨#[102, 105, 114, 115, 116]⟩, .string ⟨#[115]⟩] 27)) := (Below.refl _ _).alloc (Nat.le_refl _) _
  have H0 := hide (And.intro hO0 hb0); clear hO0 hb0
  go_loopw [3, 4] (fun u i wr => ∃ (k : Nat) (acc : List KeyR), i = .int .i64 k ∧ k ≤ ks.length ∧ Hid (sgF (ks.drop k) acc = signersF ks) ∧ acc.length ≤ 8 ∧ OwnK wr w.heap.size u acc ∧ Below w.heap.size w wr) (fun _ i _ => ks.length - (RowKit.intOf i).toNat)
  case atStart => exact ⟨0, [firstK], rfl, by omega, Lib.hid rfl, by simp, (unhide H0).1, (unhide H0).2⟩
  case round =>
    clear H0
    obtain ⟨k, acc, rfl, hk, hI, h8, hO, hb⟩ := hrel
    obtain ⟨B, d, rfl⟩ := hO.slice
    have HX := hide (And.intro hO hb); clear hO hb
    by_cases hgo : k < ks.length ∧ acc.length < 8
    · obtain ⟨hlt, hl8⟩ := hgo
      have t1 : (k : Int) < (ks.length : Int) := by omega
      have t2 : (acc.length : Int) < 8 := by omega
      obtain ⟨a, rfl, c0, c1⟩ := ((unhide HV).below (unhide HX).2).at_ k hlt
      have hkk := unhide HKS _ (List.getElem_mem hlt)
      have hst : Hid (signersF ks = if hasNm acc (namedB ks[k].nm) = true then sgF (ks.drop (k + 1)) acc else sgF (ks.drop (k + 1)) (acc ++ [⟨namedB ks[k].nm, ks[k].sc⟩])) := by
        rw [Hid, ← hI.out, List.drop_eq_getElem_cons hlt, sgF, if_neg (by omega)]
      have hal := World.block_lt_of_cell? wr _ c0
      generalize ks[k] = key at *
      obtain ⟨kn, ksc⟩ := key
      simp only at hkk c0 c1 hst
      have hnd := fun W => named_any kn W (by omega)
      have HND := hide hnd
      clear hI hnd hkk
      obtain ⟨wo, hwo⟩ : ∃ wo : World, wo = wr := ⟨_, rfl⟩
      subst hwo
      have hal' : (a.add (k * 2)).block < wo.heap.size := hal
      have hc1b : wo.cell? ⟨(a.add (k * 2)).block, (a.add (k * 2)).off + 1, none⟩ = some (.string ksc) := c1
      have hn1 := World.new_ne wo _ c0
      have hn2 : ¬ (a.add (k * 2)).block = wo.heap.size := fun e => hn1 e.symm
      go_upto_region 5 with fail
      go_cut [5] from 10 to 54 (fun s5 wx => SgCut w (namedB kn) ksc (.slice B acc.length d) acc s5 wx)
      case first =>
        go_region_law (first | (go_simp; go_at_call 37; refine ((unhide HND) _).mono ?_; rintro e w2 ⟨rfl, hb2⟩; have c02 : w2.cell? (a.add (k * 2)) = some (.string kn) := (hb2.cell (by first | exact hal' | (simp; omega))).trans (by first | exact c0 | exact (World.cell?_alloc_lt wo _ _ hal').trans c0); have c12 : w2.cell? ⟨(a.add (k * 2)).block, (a.add (k * 2)).off + 1, none⟩ = some (.string ksc) := (hb2.cell (by first | exact hal' | (simp; omega))).trans (by first | exact c1 | exact (World.cell?_alloc_lt wo _ ⟨(a.add (k * 2)).block, (a.add (k * 2)).off + 1, none⟩ hal').trans c1); have hn3 : (a.add (k * 2)).block < w2.heap.size := World.block_lt_of_cell? w2 _ c02; (first | (have hN := ((Blk.new wo 27 #[.string ⟨#[]⟩, .string ⟨#[]⟩]).drew).below hb2 (by simp); have n0 := hN.cell 0; have n1 := hN.cell 1; have nf0 := hN.frozen 0; have nf1 := hN.frozen 1; simp only [List.getElem?_toArray, List.getElem?_cons_zero, List.getElem?_cons_succ] at n0 n1) | skip)))
        all_goals
          go_wp2_with fail
          go_meet
          case rel => first | exact sg_A (unhide HX).1 (unhide HX).2 hb2 _ _ | exact sg_B (unhide HX).1 (unhide HX).2 hb2 hN _ _
      case rest =>
        obtain ⟨g5, rfl, hB5, hO5, hb5⟩ := hcut
        have h50 := hB5.cell 0; have h51 := hB5.cell 1
        simp only [List.getElem?_toArray, List.getElem?_cons_zero, List.getElem?_cons_succ] at h50 h51
        have H5 := hide (And.intro hB5 (And.intro hO5 hb5)); clear hB5 hO5 hb5 hc1b hn1 c0 c1 hal hal'
        go_wp2_with fail
        generalize namedB kn = x at *
        go_loopw [6, 7] (fun b i wr => ∃ (j nd : Nat), j ≤ acc.length ∧ i = .int .i64 j ∧ b = .bool (!hasNm (acc.take j) x) ∧ Hid (wr = wc.drewN nd)) (fun _ i _ => acc.length - (RowKit.intOf i).toNat)
        case atStart => exact ⟨0, 0, by omega, rfl, rfl, Lib.hid rfl⟩
        case round =>
          obtain ⟨j, nd, hj, rfl, rfl, hw⟩ := hrel
          have hw' := hw.out
          subst hw'
          rcases Nat.lt_or_ge j acc.length with hlj | hgj
          · have tj : (j : Int) < (acc.length : Int) := by omega
            obtain ⟨b, rfl, d0, d1⟩ := ((unhide H5).2.1.drewN nd).at_ j hlj
            have e50 : (wc.drewN nd).cell? ⟨g5, 0, none⟩ = some (.string x) := h50
            have d0' : wc.cell? ⟨b, j * 2, none⟩ = some (.string acc[j].nm) := d0
            have hns := Lib.hid (hasNm_step hlj x)
            have t3 : (0 : Int) ≤ (j : Int) := by omega
            clear d1
            cases hok : hasNm (acc.take j) x with
            | true =>
              rw [hok, Bool.true_or] at hns
              have hnx := hns.out
              generalize acc[j].nm = yn at *
              go_wp2_with fail
              go_quiet (fail)
              go_wp2_with fail
              refine ⟨⟨j + 1, nd + nq, by omega, by go_num, by rw [hnx]; rfl, Lib.hid rfl⟩, by simp [RowKit.intOf]; omega⟩
            | false =>
              rw [hok, Bool.false_or] at hns
              by_cases hyx : acc[j].nm = x
              · have hnx : Hid (hasNm (acc.take (j + 1)) x = true) := by rw [Hid, hns.out]; simpa using hyx
                rw [hyx] at d0 d0'
                clear hns hyx hok
                go_wp2_with fail
                go_quiet (fail)
                go_wp2_with fail
                refine ⟨⟨j + 1, nd + nq, by omega, by go_num, by rw [hnx.out]; rfl, Lib.hid rfl⟩, by simp [RowKit.intOf]; omega⟩
              · have hnx : Hid (hasNm (acc.take (j + 1)) x = false) := by rw [Hid, hns.out]; simpa using hyx
                have hne := toList_ne hyx
                clear hns hyx hok
                generalize acc[j].nm = yn at *
                go_wp2_with fail
                go_quiet (fail)
                go_wp2_with fail
                refine ⟨⟨j + 1, nd + nq, by omega, by go_num, by rw [hnx.out]; rfl, Lib.hid rfl⟩, by simp [RowKit.intOf]; omega⟩
          · have tj : ¬ (j : Int) < (acc.length : Int) := by omega
            rw [List.take_of_length_le hgj]
            have hO6 := (unhide H5).2.1.drewN nd
            have hB6 := (unhide H5).1.drewN nd
            have hb6 := below_drewN (unhide H5).2.2 nd
            have h60 := hB6.cell 0; have h61 := hB6.cell 1
            simp only [List.getElem?_toArray, List.getElem?_cons_zero, List.getElem?_cons_succ] at h60 h61
            have H6 := hide (And.intro hO6 hb6); clear hO6 hB6 hb6 h50 h51 H5
            generalize wc.drewN nd = w6 at *
            cases hok : hasNm acc x with
            | true =>
              have hnx : Hid (sgF (ks.drop (k + 1)) acc = signersF ks) := by rw [Hid, hst.out, if_pos hok]
              clear hst hok
              go_wp2_with fail
              go_roundw
              case rel => exact ⟨k + 1, acc, by go_num, by omega, hnx, h8, (unhide H6).1, (unhide H6).2⟩
              case measure => simp [RowKit.intOf]; omega
            | false =>
              have hnx : Hid (sgF (ks.drop (k + 1)) (acc ++ [⟨x, ksc⟩]) = signersF ks) := by rw [Hid, hst.out, if_neg (by rw [hok]; decide)]
              clear hst hok
              go_wp2_with (at_builtin; go_must (refine wpList_appK1 w6 rfl _ _ rfl (y := ⟨x, ksc⟩) (unhide H6).1 rfl rfl (by omega) (unhide H6).2.size ?_); intro v7 w7 hO7 hg7 hat7; have H7 := hide (And.intro hO7 hg7); clear hO7 hg7 hat7)
              go_roundw
              case rel => exact ⟨k + 1, acc ++ [⟨x, ksc⟩], by go_num, by omega, hnx, by simp; omega, (unhide H7).1, ((unhide H6).2.alloc (unhide H6).2.size _).grown (unhide H7).2 (by have := (unhide H6).2.size; simp; omega) (fun q hq => ((unhide H6).1.lt _ hq).1)⟩
              case measure => simp [RowKit.intOf]; omega
    · have hres : Hid (signersF ks = acc) := by
        rw [Hid, ← hI.out]
        rcases Nat.lt_or_ge k ks.length with hlt | hge
        · exact sgF_full _ _ (by omega)
        · rw [List.drop_eq_nil_of_le hge]; rfl
      clear hI
      by_cases hlt : k < ks.length
      · have t1 : (k : Int) < (ks.length : Int) := by omega
        have t2 : ¬ (acc.length : Int) < 8 := by omega
        go_wp2_with fail
        go_ret
        exact ⟨_, rfl, by rw [hres.out]; exact (unhide HX).1, (unhide HX).2⟩
      · have t1 : ¬ (k : Int) < (ks.length : Int) := by omega
        go_wp2_with fail
        go_ret
        exact ⟨_, rfl, by rw [hres.out]; exact (unhide HX).1, (unhide HX).2⟩
end Go.Proofs.YtfhaoamlagnpjaaDoor

/-
  CONTRACT of text.Unescape: a word read back.
-/
import Derived.Test.YtnkioabdpploeaaGreatDoorRows
import Derived.Test.YtnkioabdpploeaaGreatDoorGBase
import Derived.Test.YtnkioabdpploeaaGreatDoorGTabs
import Derived.Test.YtnkioabdpploeaaGreatDoorGDecs
import Derived.Test.YtnkioabdpploeaaGreatDoorSEsc
import Derived.Test.YtnkioabdpploeaaGreatDoorSUnescP
set_option linter.unusedVariables false
set_option linter.unusedSimpArgs false
namespace Go.Proofs.YtnkioabdpploeaaGreatDoor
open Go.RowKit Go.Lib
/-- The table of the sixteen signs. -/
def tabH : Array Value := ((List.range 256).map fun c => Value.int .u8 ((bv c.toUInt8 : Nat) : Int)).toArray
theorem tabH_is : tabUp hexS.data.toList 16 = tabH := by kernel_rfl
theorem tabH_at (c : UInt8) : tabH[c.toNat]? = some (.int .u8 ((bv c : Nat) : Int)) := by
  have h := c.toNat_lt
  unfold tabH
  rw [List.getElem?_toArray, List.getElem?_map, List.getElem?_range h]
  simp
theorem tabH_size : tabH.size = 256 := by unfold tabH; rw [List.size_toArray, List.length_map, List.length_range]
theorem tabH_one : tabH.all (·.oneCell') = true := by kernel_rfl
theorem tabH_any (w : World) : Calls Tryz.prog 68 #[.string hexS] w fun e w' => e = .returned (.agg tabH) ∧ Below w.heap.size w w' := by
  refine (tabled_any hexS w (by decide)).mono ?_
  rintro e w' ⟨rfl, hb⟩
  exact ⟨by rw [show hexS.size = 16 from rfl, tabH_is], hb⟩
theorem setRow_new (w : World) (Z C : Array Value) (T : TypeId) : Blk ((w.alloc (.cells Z T)).setRow w.heap.size C) w.heap.size T C ∧ Below w.heap.size w ((w.alloc (.cells Z T)).setRow w.heap.size C) :=
  ⟨setRow_heap _ _ _ _ _ _ (heap_alloc_new w _), below_setRow ((Below.refl _ _).alloc (Nat.le_refl _) _) (Nat.le_refl _) _⟩
/-- What stands in Unescape's loop. -/
structure UnS (w W : World) (gx : Nat) (C : Array Value) (v : Value) (out : List UInt8) : Prop where
  own : OwnB W (gx + 1) v out
  t : Blk W gx 125 C
  b : Below w.heap.size w W
  n : w.heap.size ≤ gx
theorem UnS.app {w W W' : World} {gx : Nat} {C : Array Value} {v v' : Value} {out out' : List UInt8} {o : Obj} (h : UnS w W gx C v out) (hO : OwnB W' (gx + 1) v' out') (hg : (W.alloc o).grownBy W' v.ownBlock) : UnS w W' gx C v' out' :=
  ⟨hO, (h.t.alloc o).grown hg (fun e => by have := (h.own.lt gx e.symm).1; omega), (h.b.alloc h.b.size o).grown hg (by have := h.b.size; simp; omega) (fun k hk => by have := (h.own.lt k hk).1; have := h.n; omega), h.n⟩
theorem UnS.appD {w W W' : World} {gx : Nat} {C : Array Value} {v v' : Value} {out out' : List UInt8} {o : Obj} (h : UnS w W gx C v out) (hO : OwnB W' (gx + 1) v' out') (hg : (W.alloc o).drew.grownBy W' v.ownBlock) : UnS w W' gx C v' out' :=
  h.app (o := o) hO ⟨hg.os, hg.tape, hg.output, hg.size, hg.block⟩
theorem u8w (n : Nat) (h : n < 16) : IntKind.u8.wrap (n : Int) = n ∧ IntKind.u8.wrap ((n : Int) * 16) = n * 16 := by
  have e : ∀ n : Fin 16, IntKind.u8.wrap (n.val : Int) = n.val ∧ IntKind.u8.wrap ((n.val : Int) * 16) = n.val * 16 := by decide
  exact e ⟨n, h⟩
set_option maxRecDepth 10000 in
theorem or16 (a b : Nat) (ha : a < 16) (hb : b < 16) : bits .or .u8 ((a : Int) * 16) (b : Int) = ((16 * a + b : Nat) : Int) := by
  have e : ∀ a b : Fin 16, bits .or .u8 ((a.val : Int) * 16) (b.val : Int) = ((16 * a.val + b.val : Nat) : Int) := by decide
  exact e ⟨a, ha⟩ ⟨b, hb⟩
theorem news1x (w : World) (z : Int) (c : UInt8) (h : z = (c.toNat : Int)) : ∀ j u, (byteCells [c])[j]? = some u → ((w.alloc (.cells #[.int .u8 z] 5)).drew).cell? ((⟨w.heap.size, 0, none⟩ : Addr).add j) = some u := by
  subst h
  exact cell_one_new _ _ _
def unA (s : ByteArray) : Value := match unE s with
  | some t => .tuple #[.string t, .int .i64 0]
  | none => .tuple #[.string ⟨#[]⟩, .int .i64 44]
set_option maxRecDepth 100000 in
set_option maxHeartbeats 4000000 in
theorem unesc_any (s : ByteArray) (w : World) (hs : s.size ≤ 1099511627776) :
    Calls Tryz.prog 46 #[.string s] w fun e w' => e = .returned (unA s) ∧ Below w.heap.size w w' := by
  by_cases hp : s = pctS
  · subst hp
    have hr : unA pctS = .tuple #[.string ⟨#[]⟩, .int .i64 0] := rfl
    rw [hr]
    clear hr
    unfold pctS
    go_enter Tryz.func46, Tryz.ntmps46
    go_wp2_with fail
    go_ret2
    exact ⟨rfl, Below.refl _ _⟩
  · have hp2 : (s.toList == [37]) = false := by
      have h := toList_ne (b := ⟨#[37]⟩) hp
      rwa [show (⟨#[37]⟩ : ByteArray).toList = [37] from by kernel_rfl] at h
    have hp1 : ¬ s.toList = [37] := by rw [beq_eq_false_iff_ne] at hp2; exact hp2
    have hres : Hid (unA s = _) := Lib.hid (by unfold unA; rw [unE_P hp])
    have htab := tabH_any w
    obtain ⟨C, hC⟩ : ∃ C, Hid (tabH = C) := ⟨_, Lib.hid rfl⟩
    rw [hC.out] at htab
    have HT := hide htab; clear htab hp
    go_enter Tryz.func46, Tryz.ntmps46
    go_wp2_with fail
    refine (unhide HT).mono ?_
    rintro e1 w1 ⟨rfl, hb1⟩
    have ci : (Tryz.prog.info? 125).map (·.size) = some C.size := by rw [← hC.out, tabH_size]; kernel_rfl
    have cz : C.size = 256 := by rw [← hC.out, tabH_size]
    have co : C.all (·.oneCell') = true := by rw [← hC.out, tabH_one]
    have Hi := hide (And.intro ci (And.intro cz (And.intro co hb1))); clear ci cz co hb1
    go_wp2_with (first | (refine wpList_store_row rfl 125 (.tmp 4) (.tmp 10) rfl w1.heap.size C rfl rfl 125 _ (heap_alloc_new w1 _) (unhide Hi).1 (by rw [(unhide Hi).2.1]; kernel_rfl) (unhide Hi).2.2.1 ?_))
    obtain ⟨hC1, hb2⟩ := setRow_new w1 Tryz.zeroCells125 C 125
    have hX0 : UnS w ((w1.alloc (.cells Tryz.zeroCells125 125)).setRow w1.heap.size C) w1.heap.size C (.slice none 0 0) [] := ⟨OwnB.nil _ _, hC1, (unhide Hi).2.2.2.trans (hb2.mono (unhide Hi).2.2.2.size), (unhide Hi).2.2.2.size⟩
    have H0 := hide hX0; clear hC1 hb2 hX0 Hi
    generalize ((w1.alloc (.cells Tryz.zeroCells125 125)).setRow w1.heap.size C) = w2 at *
    generalize w1.heap.size = gx at *
    obtain ⟨l, hl⟩ : ∃ l, Hid (s.data.toList = l) := ⟨_, Lib.hid rfl⟩
    have hll : Hid (l.length = s.size) := Lib.hid (by rw [← hl.out]; exact Array.length_toList)
    rw [hl.out] at hres
    go_loopw [5, 6] (fun b i W => ∃ (k : Nat) (out : List UInt8), k ≤ s.size ∧ i = .int .i64 (k : Int) ∧ Hid ((unP (l.drop k)).map (out ++ ·) = unP l) ∧ Hid (out.length ≤ k) ∧ UnS w W gx C b out) (fun _ i _ => s.size - (RowKit.intOf i).toNat)
    case atStart => exact ⟨0, [], by omega, rfl, Lib.hid (by simp), Lib.hid (by simp), unhide H0⟩
    case round =>
      clear H0
      obtain ⟨k, out, hk, rfl, hI, hol, hX⟩ := hrel
      rcases Nat.lt_or_ge k s.size with hlt | hge
      · have t0 : (0 : Int) ≤ (k : Int) := by omega
        have t1 : (k : Int) < (s.size : Int) := by omega
        have hkl : k < l.length := by have := hll.out; omega
        have hgk : Hid (l[k] = s[k]) := Lib.hid (by have h := hl.out; subst h; rfl)
        have hdr : Hid (l.drop k = s[k] :: l.drop (k + 1)) := Lib.hid (by rw [List.drop_eq_getElem_cons hkl, hgk.out])
        have HX := hide hX; clear hX
        by_cases hc : s[k] = 37
        · have q1 : ((s[k].toNat : Int) == 37) = true := by rw [hc]; rfl
          have q2 : (s[k].toNat : Int) = 37 := by rw [hc]; rfl
          rw [hc] at hdr
          by_cases h2 : k + 2 < s.size
          · have u1 : ¬ (s.size : Int) ≤ (k : Int) + 2 := by omega
            have u2 : k + 1 < s.size := by omega
            have hk1 : k + 1 < l.length := by have := hll.out; omega
            have hk2 : k + 2 < l.length := by have := hll.out; omega
            have hdr2 : Hid (l.drop k = 37 :: s[k + 1] :: s[k + 2] :: l.drop (k + 3)) := Lib.hid (by
              rw [hdr.out, List.drop_eq_getElem_cons hk1, List.drop_eq_getElem_cons hk2]
              have h := hl.out; subst h; rfl)
            have hI3 := hI.out
            rw [hdr2.out, unP_x] at hI3
            have HI := hide hI3; clear hI3 hI hdr hdr2 hgk
            have ca : wr.cell? ⟨gx, s[k + 1].toNat, none⟩ = some (.int .u8 (bv s[k + 1] : Int)) := by
              have h := (unhide HX).t.cell s[k + 1].toNat
              rw [← hC.out, tabH_at] at h
              exact h
            have cb : wr.cell? ⟨gx, s[k + 2].toNat, none⟩ = some (.int .u8 (bv s[k + 2] : Int)) := by
              have h := (unhide HX).t.cell s[k + 2].toNat
              rw [← hC.out, tabH_at] at h
              exact h
            have la : s[k + 1].toNat < 256 := s[k + 1].toNat_lt
            have lb : s[k + 2].toNat < 256 := s[k + 2].toNat_lt
            by_cases ha : bv s[k + 1] = 0
            · have qa : ((bv s[k + 1] : Int) == 0) = true := by rw [beq_iff_eq]; omega
              have qa2 : (bv s[k + 1] : Int) = 0 := by omega
              have hP : Hid (unA s = .tuple #[.string ⟨#[]⟩, .int .i64 44]) := Lib.hid (by
                have h := unhide HI
                rw [if_pos (.inl ha)] at h
                rw [hres.out, ← h]; rfl)
              clear HI hres
              have Hb := hide (unhide HX).b
              go_wp2_with fail
              go_ret2
              exact ⟨by rw [hP.out]; rfl, unhide Hb⟩
            · have qa : ((bv s[k + 1] : Int) == 0) = false := by rw [beq_eq_false_iff_ne]; omega
              have qa2 : ¬ (bv s[k + 1] : Int) = 0 := by omega
              by_cases hb : bv s[k + 2] = 0
              · have qb : ((bv s[k + 2] : Int) == 0) = true := by rw [beq_iff_eq]; omega
                have qb2 : (bv s[k + 2] : Int) = 0 := by omega
                have hP : Hid (unA s = .tuple #[.string ⟨#[]⟩, .int .i64 44]) := Lib.hid (by
                  have h := unhide HI
                  rw [if_pos (.inr hb)] at h
                  rw [hres.out, ← h]; rfl)
                clear HI hres
                have Hb := hide (unhide HX).b
                go_wp2_with fail
                go_ret2
                exact ⟨by rw [hP.out]; rfl, unhide Hb⟩
              · have qb : ((bv s[k + 2] : Int) == 0) = false := by rw [beq_eq_false_iff_ne]; omega
                have qb2 : ¬ (bv s[k + 2] : Int) = 0 := by omega
                have hI4 : Hid ((unP (l.drop (k + 3))).map ((out ++ [hx s[k + 1] s[k + 2]]) ++ ·) = unP l) := Lib.hid (by
                  have h := unhide HI
                  rw [if_neg (by rintro (h | h) <;> contradiction), Option.map_map] at h
                  rw [← h]
                  congr 1
                  funext x
                  simp)
                go_wp2_with fail
                obtain ⟨A, hA⟩ : ∃ A, bv s[k + 1] = A + 1 := ⟨bv s[k + 1] - 1, by omega⟩
                obtain ⟨B, hB⟩ : ∃ B, bv s[k + 2] = B + 1 := ⟨bv s[k + 2] - 1, by omega⟩
                have hA16 : A ≤ 15 := by have := bv_le s[k + 1]; omega
                have hB16 : B ≤ 15 := by have := bv_le s[k + 2]; omega
                have ca' : wr.cell? ⟨gx, s[k + 1].toNat, none⟩ = some (.int .u8 ((A : Int) + 1)) := by rw [ca, hA]; rfl
                have cb' : wr.cell? ⟨gx, s[k + 2].toNat, none⟩ = some (.int .u8 ((B : Int) + 1)) := by rw [cb, hB]; rfl
                clear ca cb HI qa qa2 qb qb2 ha hb
                have z1 : IntKind.i64.wrap ((k : Int) + 1) = k + 1 := IntWalk.i64_in _ (by omega)
                have z2 : IntKind.i64.wrap ((k : Int) + 2) = k + 2 := IntWalk.i64_in _ (by omega)
                have p1 : ((k : Int) + 1).toNat = k + 1 := by omega
                have p2 : ((k : Int) + 2).toNat = k + 2 := by omega
                have o1 : 0 ≤ (k : Int) + 1 := by omega
                have o2 : 0 ≤ (k : Int) + 2 := by omega
                have i1 : (k : Int) + 1 < (s.size : Int) := by omega
                have i2 : (k : Int) + 2 < (s.size : Int) := by omega
                have m1 : (s[k + 1].toNat : Int) < 256 := by omega
                have m2 : (s[k + 2].toNat : Int) < 256 := by omega
                obtain ⟨x1, x3⟩ := u8w A (by omega)
                obtain ⟨x2, -⟩ := u8w B (by omega)
                have x4 : bits .or .u8 ((A : Int) * 16) (B : Int) = ((hx s[k + 1] s[k + 2]).toNat : Int) := by
                  rw [or16 A B (by omega) (by omega)]
                  show _ = (((16 * (bv s[k + 1] - 1) + (bv s[k + 2] - 1)) % 256 : Nat) : Int)
                  rw [hA, hB]; omega
                have hob : out.length + 1 ≤ 140737488355328 := by have := hol.out; omega
                generalize hx s[k + 1] s[k + 2] = hc at *
                clear hA hB
                go_region_law (first | (refine step_appB rfl (.tmp 50) (.tmp 67) rfl ((unhide HX).own.alloc _).drew rfl ⟨wr.heap.size, 0, none⟩ 1 1 [hc] rfl rfl (news1x wr _ _ (by first | rfl | exact x4)) hob (by have := (unhide HX).t.lt; simp; omega) ?_; intro v1 w3 hO1 hg1 hat1; have H1 := hide ((unhide HX).appD hO1 hg1); clear hO1 hg1 hat1))
                all_goals
                  go_wp2_with fail
                  refine ⟨⟨k + 3, out ++ [hc], by omega, by go_num, hI4, Lib.hid (by have := hol.out; simp; omega), unhide H1⟩, by simp [RowKit.intOf]; omega⟩
          · have u1 : (s.size : Int) ≤ (k : Int) + 2 := by omega
            have hP : Hid (unA s = .tuple #[.string ⟨#[]⟩, .int .i64 44]) := Lib.hid (by
              have h := hI.out
              rw [hdr.out, unP_end _ (by rw [List.length_drop]; have := hll.out; omega)] at h
              rw [hres.out, ← h]; rfl)
            clear hI hres hdr
            have Hb := hide (unhide HX).b
            go_wp2_with fail
            go_ret2
            exact ⟨by rw [hP.out]; rfl, unhide Hb⟩
        · have q1 : ((s[k].toNat : Int) == 37) = false := by
            rw [beq_eq_false_iff_ne]; exact fun e => hc (UInt8.toNat_inj.1 (by show s[k].toNat = 37; omega))
          have q2 : ¬ (s[k].toNat : Int) = 37 := by rw [beq_eq_false_iff_ne] at q1; exact q1
          have hI2 : Hid ((unP (l.drop (k + 1))).map ((out ++ [s[k]]) ++ ·) = unP l) := Lib.hid (by
            rw [← hI.out, hdr.out, unP_c _ _ hc, Option.map_map]
            congr 1
            funext x
            simp)
          clear hc hdr hgk hI
          have hcx : Hid (((s[k].toNat : Int)).toNat.toUInt8 = s[k]) := Lib.hid (by simp)
          have hcb : (s[k].toNat : Int) < 256 := by have := s[k].toNat_lt; omega
          go_wp2_with (first | (at_builtin; refine wpList_app1 wr rfl _ _ rfl (unhide HX).own rfl rfl (by omega) hcb (by have := hol.out; omega) (by have := (unhide HX).t.lt; omega) ?_; intro v1 w3 hO1 hg1 hat1; rw [hcx.out] at hO1; have H1 := hide ((unhide HX).app hO1 hg1); clear hO1 hg1 hat1))
          refine ⟨⟨k + 1, out ++ [s[k]], by omega, by go_num, hI2, Lib.hid (by have := hol.out; simp; omega), unhide H1⟩, by simp [RowKit.intOf]; omega⟩
      · have t1 : ¬ (k : Int) < (s.size : Int) := by omega
        have hP : Hid (unP l = some out) := Lib.hid (by rw [← hI.out, List.drop_eq_nil_of_le (by have := hll.out; omega), unP_nil]; simp)
        have hoz : Hid (out.length ≤ 1099511627776) := Lib.hid (by have := hol.out; omega)
        have hro := hres.out
        rw [hP.out] at hro
        simp only at hro
        obtain ⟨T, hT⟩ : ∃ T : ByteArray, Hid ((⟨out.toArray⟩ : ByteArray) = T) := ⟨_, Lib.hid rfl⟩
        have hTz : T.size ≤ 1099511627776 := by rw [← hT.out]; show out.toArray.size ≤ _; rw [List.size_toArray]; exact hoz.out
        rw [hT.out] at hro
        have hcv := conv_own (hX.own)
        rw [hT.out] at hcv
        have hesc := fun W => escape_any T W hTz
        obtain ⟨E, hE⟩ : ∃ E, Hid (escS T = E) := ⟨_, Lib.hid rfl⟩
        rw [hE.out] at hro hesc
        have HE := hide hesc; have HX := hide hX.b; have HR := hide hro
        clear hres hI hX hesc hro hol
        by_cases hes : E = s
        · have y1 : (E.toList == s.toList) = true := by rw [hes]; exact beq_self_eq_true _
          have y2 : E.toList = s.toList := by rw [hes]
          have hr : Hid (unA s = .tuple #[.string T, .int .i64 0]) := Lib.hid (by rw [unhide HR, if_pos hes])
          clear HR hes
          go_wp2_with fail
          refine ((unhide HE) _).mono ?_
          rintro e2 w3 ⟨rfl, hb3⟩
          have H3 := hide ((unhide HX).trans (hb3.mono (unhide HX).size)); clear hb3 HX HE
          go_wp2_with fail
          go_ret2
          exact ⟨by rw [hr.out]; rfl, unhide H3⟩
        · have y1 : (E.toList == s.toList) = false := toList_ne hes
          have y2 : ¬ E.toList = s.toList := by rw [beq_eq_false_iff_ne] at y1; exact y1
          have hr : Hid (unA s = .tuple #[.string ⟨#[]⟩, .int .i64 44]) := Lib.hid (by rw [unhide HR, if_neg hes])
          clear HR hes
          go_wp2_with fail
          refine ((unhide HE) _).mono ?_
          rintro e2 w3 ⟨rfl, hb3⟩
          have H3 := hide ((unhide HX).trans (hb3.mono (unhide HX).size)); clear hb3 HX HE
          go_wp2_with fail
          go_ret2
          exact ⟨by rw [hr.out]; rfl, unhide H3⟩
end Go.Proofs.YtnkioabdpploeaaGreatDoor

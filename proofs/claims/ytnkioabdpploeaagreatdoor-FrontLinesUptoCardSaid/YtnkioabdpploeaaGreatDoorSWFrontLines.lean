/-
  THE WALK of the law FrontLines: whatever is told is read back; what is asked likewise; what is read is written again as it was.
-/
import Derived.Test.YtnkioabdpploeaaGreatDoorRows
import Derived.Test.YtnkioabdpploeaaGreatDoorGBase
import Derived.Test.YtnkioabdpploeaaGreatDoorSCallW
import Derived.Test.YtnkioabdpploeaaGreatDoorSFAsked
import Derived.Test.YtnkioabdpploeaaGreatDoorSFTold
import Derived.Test.YtnkioabdpploeaaGreatDoorSSameC
import Derived.Test.YtnkioabdpploeaaGreatDoorGTld
set_option linter.unusedVariables false
set_option linter.unusedSimpArgs false
namespace Go.Proofs.YtnkioabdpploeaaGreatDoor
open Go.RowKit Go.Lib
theorem sizesL_S (l : List ByteArray) : sizesL l + l.length ≤ sizeS l := by
  induction l with
  | nil => simp [sizesL, sizeS]
  | cons x r ih =>
    have h : sizeS (x :: r) = x.size + 1 + sizeS r := rfl
    rw [h, sizesL, List.length_cons]
    omega
/-- What was told, is read back. -/
theorem tell_back {r : RpR} (hc : In64 r.c) (hn : ∀ z ∈ r.ns, In64 z) (hl : r.ns.length ≤ 1099511627776) : toldO (tellB r) = some r := by
  have hw := tell_words r
  have h0 : numV (decS r.c) = r.c := by unfold numV; rw [numV_dec hc]; rfl
  have h1 : numV (decS (r.ns.length : Int)) = (r.ns.length : Int) := by unfold numV; rw [numV_dec ⟨by omega, by omega⟩]; rfl
  have htk : takeR (decS r.c :: decS r.ns.length :: (r.ns.map decS ++ r.ss)) = r := by
    unfold takeR
    rw [show (decS r.c :: decS r.ns.length :: (r.ns.map decS ++ r.ss)).getD 0 ⟨#[]⟩ = decS r.c from rfl, show (decS r.c :: decS r.ns.length :: (r.ns.map decS ++ r.ss)).getD 1 ⟨#[]⟩ = decS r.ns.length from rfl, h0, h1]
    rw [show (decS r.c :: decS r.ns.length :: (r.ns.map decS ++ r.ss)).drop 2 = r.ns.map decS ++ r.ss from rfl]
    obtain ⟨c, ns, ss⟩ := r
    simp only [Int.toNat_natCast]
    congr 1
    · rw [List.take_left' (by simp), List.map_map]
      conv => rhs; rw [← List.map_id ns]
      refine List.map_congr_left fun z hz => ?_
      show numV (decS z) = z
      unfold numV
      rw [numV_dec (hn z hz)]; rfl
    · rw [← List.drop_drop]
      exact List.drop_left' (by simp)
  have hgl : (decS r.c :: decS r.ns.length :: (r.ns.map decS ++ r.ss)).length = 2 + r.ns.length + r.ss.length := by simp; omega
  rw [told_last hw (by rw [hgl]; omega) (by
    rw [show (decS r.c :: decS r.ns.length :: (r.ns.map decS ++ r.ss)).getD 1 ⟨#[]⟩ = decS r.ns.length from rfl, h1, hgl]
    omega), htk, if_pos rfl]
theorem told_again {s : ByteArray} {r : RpR} (h : toldO s = some r) (hs : s.size ≤ 33554432) : tellB r = s ∧ RpOk r := by
  unfold toldO at h
  split at h
  · cases h
  · rename_i ws hw
    split at h
    · cases h
    · split at h
      · cases h
      · rename_i h1 h2
        split at h
        · rename_i ht
          injection h with h
          subst h
          exact ⟨ht, takeR_big hw (by omega) (by omega) hs⟩
        · cases h
def sizeT : ByteArray := ⟨#[115, 105, 122, 101]⟩
theorem size_call : callB ⟨sizeT, [], []⟩ = sizeT ∧ CaOk ⟨sizeT, [], []⟩ ∧ callO sizeT = some ⟨sizeT, [], []⟩ := by
  have h1 : callB ⟨sizeT, [], []⟩ = sizeT := rfl
  have h2 : CaOk ⟨sizeT, [], []⟩ := rfl
  have h3 := call_back h2 (fun z hz => absurd hz (by simp))
  rw [h1] at h3
  exact ⟨h1, h2, h3⟩
/-- The two arguments' boxes. -/
structure FlX (w W : World) (xs ys : Array Value) : Prop where
  b : Below w.heap.size w W
  x : Blk W w.heap.size 25 xs
  y : Blk W (w.heap.size + 1) 44 ys
theorem FlX.next {w W W' : World} {xs ys : Array Value} (h : FlX w W xs ys) (hb : Below W.heap.size W W') : FlX w W' xs ys := ⟨h.b.trans (hb.mono h.b.size), h.x.below hb h.x.lt, h.y.below hb h.y.lt⟩
theorem FlX.new (w : World) (xs ys : Array Value) : FlX w ((w.alloc (.cells xs 25)).alloc (.cells ys 44)) xs ys := by
  refine ⟨((Below.refl _ _).alloc (Nat.le_refl _) _).alloc (by simp) _, (Blk.new _ _ _).alloc _, ?_⟩
  have h := Blk.new (w.alloc (.cells xs 25)) 44 ys
  rw [World.size_alloc] at h
  exact h
set_option maxRecDepth 100000 in
set_option maxHeartbeats 4000000 in
theorem lawFrontLines_any (c : ByteArray) (CN : List Int) (CS : List ByteArray) (cn cs : Value) (z : Int) (N : List Int) (S : List ByteArray) (vn vs : Value) (line : ByteArray) (w : World) (hCN : IntsAt w cn CN) (hCS : StrsAt w cs CS) (hci : ∀ z ∈ CN, In64 z) (hz : In64 z) (hN : IntsAt w vn N) (hS : StrsAt w vs S) (hi : ∀ z ∈ N, In64 z) (hk1 : CN.length + sizeS CS ≤ 1048576) (hk2 : N.length + sizeS S ≤ 1048576) (hl : line.size ≤ 1048577) :
    Calls Tryz.prog 4 #[.agg #[.string c, cn, cs], .agg #[.int .i64 z, vn, vs], .string line] w fun e W' => e = .returned (.bool true) ∧ Below w.heap.size w W' := by
  have hcs := sizesL_S CS; have hss := sizesL_S S
  have hX0 := FlX.new w #[.string c, cn, cs] #[.int .i64 z, vn, vs]
  have hCz : ∀ x ∈ CS, x.size ≤ 1048576 := fun x hx => by have := sizeS_mem hx; omega
  have hSz : ∀ x ∈ S, x.size ≤ 1048576 := fun x hx => by have := sizeS_mem hx; omega
  have hcok : CcOk ⟨c, CN, CS⟩ := ⟨hci, fun x hx => by have := hCz x hx; omega⟩
  have hts := tell_sum ⟨z, N, S⟩ hz hi (by simp only; omega)
  simp only at hts
  have hrok : RpOk ⟨z, N, S⟩ := ⟨hz, hi, fun x hx => by have := hSz x hx; omega, by simp only; omega, by omega⟩
  have htb := tell_back (r := ⟨z, N, S⟩) hz hi (by simp only; omega)
  obtain ⟨A, ca, rfl, -⟩ := id hCN
  obtain ⟨B, cb, rfl, -⟩ := id hCS
  obtain ⟨C, cc, rfl, -⟩ := id hN
  obtain ⟨D, cd, rfl, -⟩ := id hS
  have hA0 := fcall_any ⟨sizeT, [], []⟩ (.slice none 0 0) (.slice none 0 0) ((w.alloc (.cells #[.string c, .slice A CN.length ca, .slice B CS.length cb] 25)).alloc (.cells #[.int .i64 z, .slice C N.length cc, .slice D S.length cd] 44)) (OwnI.ints (show OwnI _ 0 (.slice none 0 0) [] from World.ownsRow_nil _ _ _ _)) (ownT_strs (OwnT.nil _ 0)) ⟨fun z hz => absurd hz (by simp), fun x hx => absurd hx (by simp)⟩ (by simp) (by simp)
  rw [fcallV_ok size_call.2.1, size_call.1] at hA0
  have hQ0 := fun W => fasked_any sizeT W (by decide)
  obtain ⟨T, hTT⟩ : ∃ T, Hid (tellB ⟨z, N, S⟩ = T) := ⟨_, Lib.hid rfl⟩
  rw [hTT.out] at htb hts
  have hM := fun W (hb : Below w.heap.size w W) => ftell_any ⟨z, N, S⟩ (.slice C N.length cc) (.slice D S.length cd) W (hN.below hb) (hS.below hb) hrok
  simp only [hTT.out] at hM
  have hTs : T.size ≤ 33554432 := by omega
  have hR := fun W => ftold_big T W hTs
  have hCA := fun W (hb : Below w.heap.size w W) => fcall_any ⟨c, CN, CS⟩ (.slice A CN.length ca) (.slice B CS.length cb) W (hCN.below hb) (hCS.below hb) hcok (by simp only; omega) (by simp only; omega)
  have HX := hide hX0; have HA := hide hA0; have HQ := hide hQ0; have HM := hide hM; have HR := hide hR; have HCA := hide hCA
  have HARG := hide (And.intro hCN (And.intro hCS (And.intro hN (And.intro hS (And.intro hci (And.intro hCz htb))))))
  clear hcs hss hX0 hcok hts hrok htb hA0 hQ0 hM hTs hR hCA hCN hCS hci hz hN hS hi hCz hSz
  unfold sizeT at HA HQ
  go_enter Tryz.func4, Tryz.ntmps4
  go_wp2_with fail
  refine (unhide HA).mono ?_
  rintro e1 w1 ⟨rfl, hb1⟩
  have hX1 := (unhide HX).next hb1
  have HX1 := hide hX1
  clear hX1 hb1 HX HA
  go_wp2_with fail
  refine (unhide HQ _).mono ?_
  rintro e2 w2 ⟨hT2, hb2⟩
  rcases hT2 with ⟨r2, vn2, vs2, hr2, rfl, hn2, hs2⟩ | ⟨hr2, -⟩
  case inr => exact absurd (hr2.symm.trans size_call.2.2) (by simp)
  obtain rfl : (⟨sizeT, [], []⟩ : CaR) = r2 := by have h := size_call.2.2.symm.trans hr2; injection h
  obtain ⟨A2, c2, rfl, -⟩ := id hn2.ints
  obtain ⟨B2, d2, rfl, -⟩ := id (ownT_strs hs2)
  simp only [List.length_nil] at hn2 hs2 ⊢
  have hX2 := (unhide HX1).next (hb2.alloc hb2.size (.cells #[.string sizeT, .slice A2 0 c2, .slice B2 0 d2] 25))
  have hB2 := Blk.new w2 25 #[.string sizeT, .slice A2 0 c2, .slice B2 0 d2]
  have c0 := hB2.cell 0
  have y0 := hX2.y.cell 0; have y1 := hX2.y.cell 1; have y2 := hX2.y.cell 2
  simp only [List.getElem?_toArray, List.getElem?_cons_zero, List.getElem?_cons_succ] at c0 y0 y1 y2
  have hM2 := (unhide HM) _ hX2.b
  have HX2 := hide hX2; have HM2 := hide hM2
  clear hX2 hB2 hM2 hn2 hs2 hr2 hb2 HX1 HQ HM
  unfold sizeT at *
  go_wp2_with fail
  refine (unhide HM2).mono ?_
  rintro e3 w3 ⟨rfl, hb3⟩
  have hX3 := (unhide HX2).next hb3
  have HX3 := hide hX3
  clear hX3 hb3 HX2 HM2 c0 y0 y1 y2
  go_wp2_with fail
  refine (unhide HR _).mono ?_
  rintro e4 w4 ⟨hT4, hb4⟩
  rcases hT4 with ⟨r4, vn4, vs4, hr4, rfl, hn4, hs4⟩ | ⟨hr4, -⟩
  case inr => exact absurd (hr4.symm.trans (unhide HARG).2.2.2.2.2.2) (by simp)
  obtain rfl : (⟨z, N, S⟩ : RpR) = r4 := by have h := (unhide HARG).2.2.2.2.2.2.symm.trans hr4; injection h
  simp only at hn4 hs4 ⊢
  obtain ⟨A4, c4, rfl, -⟩ := id hn4.ints
  obtain ⟨B4, d4, rfl, -⟩ := id (ownT_strs hs4)
  have hba : Below w3.heap.size w3 (w4.alloc (.cells #[.int .i64 z, .slice A4 N.length c4, .slice B4 S.length d4] 44)) := hb4.alloc hb4.size _
  have hX5 := (unhide HX3).next hba
  have hR5 := Blk.new w4 44 #[.int .i64 z, .slice A4 N.length c4, .slice B4 S.length d4]
  have hss := sizesL_S S; have hcs := sizesL_S CS
  have hcall := sameReply27_eq z _ _ _ _ N S (w4.alloc (.cells #[.int .i64 z, .slice A4 N.length c4, .slice B4 S.length d4] 44)) (by omega) (by omega) (OwnI.ints (World.ownsRow.alloc hn4 _)) ((unhide HARG).2.2.1.below hX5.b) (ownT_strs (World.ownsRow.alloc hs4 _)) ((unhide HARG).2.2.2.1.below hX5.b)
  have r0 := hR5.cell 0; have r1 := hR5.cell 1; have r2 := hR5.cell 2
  have y0 := hX5.y.cell 0; have y1 := hX5.y.cell 1; have y2 := hX5.y.cell 2
  simp only [List.getElem?_toArray, List.getElem?_cons_zero, List.getElem?_cons_succ] at r0 r1 r2 y0 y1 y2
  have HX5 := hide hX5; have HC := hide hcall
  clear hX5 hR5 hcall hba hb4 hn4 hs4 hr4 HX3 HR hss
  go_wp2_with fail
  refine (unhide HC).mono ?_
  rintro e6 w6 ⟨rfl, hb6⟩
  have hX6 := (unhide HX5).next hb6
  have x0 := hX6.x.cell 0; have x1 := hX6.x.cell 1; have x2 := hX6.x.cell 2
  simp only [List.getElem?_toArray, List.getElem?_cons_zero, List.getElem?_cons_succ] at x0 x1 x2
  have hA6 := (unhide HCA) w6 hX6.b
  unfold fcallV at hA6
  obtain ⟨T2, hT2⟩ : ∃ T2, Hid ((if CaOk ⟨c, CN, CS⟩ then callB ⟨c, CN, CS⟩ else ⟨#[]⟩) = T2) := ⟨_, Lib.hid rfl⟩
  obtain ⟨z2, hz2⟩ : ∃ z2 : Int, Hid ((if CaOk ⟨c, CN, CS⟩ then (0 : Int) else 270) = z2) := ⟨_, Lib.hid rfl⟩
  rw [hT2.out, hz2.out] at hA6
  have HX6 := hide hX6; have HA6 := hide hA6
  clear hX6 hA6 hb6 HX5 HC HCA r0 r1 r2 y0 y1 y2
  go_wp2_with fail
  refine (unhide HA6).mono ?_
  rintro e7 w7 ⟨rfl, hb7⟩
  have HX7 := hide ((unhide HX6).next hb7)
  clear hb7 HX6 HA6 x0 x1 x2
  go_upto_if 69 with fail
  go_cut [6] (fun s6 wx => s6 = .bool false ∧ Hid (FlX w wx #[.string c, .slice A CN.length ca, .slice B CS.length cb] #[.int .i64 z, .slice C N.length cc, .slice D S.length cd]))
  case first =>
    by_cases hco : CaOk ⟨c, CN, CS⟩
    · have e2 : z2 = 0 := by rw [← hz2.out, if_pos hco]
      have e3 : callB ⟨c, CN, CS⟩ = T2 := by rw [← hT2.out, if_pos hco]
      have hsz : T2.size ≤ 33554432 := by
        have h := call_size hco (unhide HARG).2.2.2.2.1 1048576 (unhide HARG).2.2.2.2.2.1
        rw [← e3]
        show (List.toArray _).size ≤ _
        rw [List.size_toArray]
        omega
      have hcb := Lib.hid (call_back hco (unhide HARG).2.2.2.2.1)
      rw [e3] at hcb
      have hq := fasked_any T2 w7 hsz
      have HQ := hide hq
      subst e2
      clear hq hsz e3 hco hz2 hT2
      go_wp2_with fail
      refine (unhide HQ).mono ?_
      rintro e8 w8 ⟨hT8, hb8⟩
      rcases hT8 with ⟨r8, vn8, vs8, hr8, rfl, hn8, hs8⟩ | ⟨hr8, -⟩
      case inr => exact absurd (hr8.symm.trans hcb.out) (by simp)
      obtain rfl : (⟨c, CN, CS⟩ : CaR) = r8 := by have h := hcb.out.symm.trans hr8; injection h
      simp only at hn8 hs8 ⊢
      obtain ⟨A8, c8, rfl, -⟩ := id hn8.ints
      obtain ⟨B8, d8, rfl, -⟩ := id (ownT_strs hs8)
      have hba : Below w7.heap.size w7 (w8.alloc (.cells #[.string c, .slice A8 CN.length c8, .slice B8 CS.length d8] 25)) := hb8.alloc hb8.size _
      have hX9 := (unhide HX7).next hba
      have hR9 := Blk.new w8 25 #[.string c, .slice A8 CN.length c8, .slice B8 CS.length d8]
      have hcall := sameCall27_eq c _ _ _ _ CN CS (w8.alloc (.cells #[.string c, .slice A8 CN.length c8, .slice B8 CS.length d8] 25)) (by omega) (by omega) (OwnI.ints (World.ownsRow.alloc hn8 _)) ((unhide HARG).1.below hX9.b) (ownT_strs (World.ownsRow.alloc hs8 _)) ((unhide HARG).2.1.below hX9.b)
      have r0 := hR9.cell 0; have r1 := hR9.cell 1; have r2 := hR9.cell 2
      have x0 := hX9.x.cell 0; have x1 := hX9.x.cell 1; have x2 := hX9.x.cell 2
      simp only [List.getElem?_toArray, List.getElem?_cons_zero, List.getElem?_cons_succ] at r0 r1 r2 x0 x1 x2
      have HX9 := hide hX9; have HC := hide hcall
      clear hX9 hR9 hcall hba hb8 hn8 hs8 hr8 HQ HX7
      go_wp2_with fail
      refine (unhide HC).mono ?_
      rintro e10 w10 ⟨rfl, hb10⟩
      have HX10 := hide ((unhide HX9).next hb10)
      clear hb10 HX9 HC r0 r1 r2 x0 x1 x2
      go_wp2_with fail
      go_meet
      case rel => exact ⟨rfl, Lib.hid (unhide HX10)⟩
    · have e2 : z2 = 270 := by rw [← hz2.out, if_neg hco]
      subst e2
      clear hco hz2 hT2
      go_wp2_with fail
      go_meet
      case rel => exact ⟨rfl, Lib.hid (unhide HX7)⟩
  case rest =>
    obtain ⟨rfl, hX⟩ := hcut
    have HX := hide hX.out
    clear hX HX7 hz2 hT2
    have hq := fasked_any line wc (by omega)
    have HQ := hide hq
    clear hq
    go_wp2_with fail
    refine (unhide HQ).mono ?_
    rintro e8 w8 ⟨hT8, hb8⟩
    obtain ⟨vn8, vs8, rfl, hn8, hs8⟩ := col_form hT8
    obtain ⟨eA, heA⟩ : ∃ e, Hid (resCE line = e) := ⟨_, Lib.hid rfl⟩
    have hcase : (eA = 0 ∧ callO line = some (resC line)) ∨ (eA = 270 ∧ callO line = none) := by
      rw [← heA.out]
      unfold resCE resC
      cases h : callO line with
      | none => right; simp
      | some r => left; simp
    obtain ⟨RA, hRA⟩ : ∃ R, Hid (resC line = R) := ⟨_, Lib.hid rfl⟩
    rw [hRA.out] at hn8 hs8 hcase ⊢
    rw [heA.out]
    obtain ⟨cA, NA, SA⟩ := RA
    simp only at hn8 hs8 ⊢
    obtain ⟨A8, c8, rfl, -⟩ := id hn8.ints
    obtain ⟨B8, d8, rfl, -⟩ := id (ownT_strs hs8)
    have hba : Below wc.heap.size wc (w8.alloc (.cells #[.string cA, .slice A8 NA.length c8, .slice B8 SA.length d8] 25)) := hb8.alloc hb8.size _
    have hX9 := (unhide HX).next hba
    have hR9 := Blk.new w8 25 #[.string cA, .slice A8 NA.length c8, .slice B8 SA.length d8]
    have hn9 := OwnI.ints (show OwnI _ wc.heap.size _ NA from World.ownsRow.alloc hn8 (.cells #[.string cA, .slice A8 NA.length c8, .slice B8 SA.length d8] 25))
    have hs9 := ownT_strs (show OwnT _ wc.heap.size _ SA from World.ownsRow.alloc hs8 (.cells #[.string cA, .slice A8 NA.length c8, .slice B8 SA.length d8] 25))
    have r0 := hR9.cell 0; have r1 := hR9.cell 1; have r2 := hR9.cell 2
    simp only [List.getElem?_toArray, List.getElem?_cons_zero, List.getElem?_cons_succ] at r0 r1 r2
    have HX9 := hide hX9; have HNS := hide (And.intro hn9 hs9); have HCS := Lib.hid hcase
    clear hX9 hR9 hba hb8 hn8 hs8 hT8 HQ HX hn9 hs9 hcase
    go_upto_if 90 with fail
    generalize (w8.alloc (.cells #[.string cA, .slice A8 NA.length c8, .slice B8 SA.length d8] 25)) = w9 at *
    go_cut [6] (fun s6 wx => s6 = .bool false ∧ Hid (FlX w wx #[.string c, .slice A CN.length ca, .slice B CS.length cb] #[.int .i64 z, .slice C N.length cc, .slice D S.length cd]))
    case first =>
      rcases HCS.out with ⟨e2, hc2⟩ | ⟨e2, -⟩
      · have hag := call_again hc2
        have hlq := (shapeS_some hag.1).2.2.2
        simp only at hlq
        have hcall := fcall_any ⟨cA, NA, SA⟩ _ _ w9 (unhide HNS).1 (unhide HNS).2 ⟨hag.2.2.1, fun x hx => by have := hag.2.2.2 x hx; omega⟩ (by simp only; omega) (by simp only; omega)
        rw [fcallV_ok hag.1, hag.2.1] at hcall
        have HC := hide hcall
        have y1 : (line.toList == line.toList) = true := beq_self_eq_true _
        subst e2
        clear hag hlq hcall hc2 HCS heA hRA
        go_wp2_with fail
        refine (unhide HC).mono ?_
        rintro e10 w10 ⟨rfl, hb10⟩
        have HX10 := hide ((unhide HX9).next hb10)
        clear hb10 HX9 HC r0 r1 r2
        go_wp2_with fail
        go_meet
        case rel => exact ⟨rfl, Lib.hid (unhide HX10)⟩
      · subst e2
        clear HCS heA hRA
        go_wp2_with fail
        go_meet
        case rel => exact ⟨rfl, Lib.hid (unhide HX9)⟩
    case rest =>
      obtain ⟨rfl, hX⟩ := hcut
      have HX := hide hX.out
      clear hX HX9 HNS HCS heA hRA r0 r1 r2
      have hq := ftold_big line wc (by omega)
      have HQ := hide hq
      clear hq
      go_wp2_with fail
      refine (unhide HQ).mono ?_
      rintro e10 w10 ⟨hT10, hb10⟩
      rcases hT10 with ⟨r10, vn10, vs10, hr10, rfl, hn10, hs10⟩ | ⟨hr10, rfl⟩
      · obtain ⟨cD, ND, SD⟩ := r10
        simp only at hn10 hs10 ⊢
        obtain ⟨A10, c10, rfl, -⟩ := id hn10.ints
        obtain ⟨B10, d10, rfl, -⟩ := id (ownT_strs hs10)
        have hba : Below wc.heap.size wc (w10.alloc (.cells #[.int .i64 cD, .slice A10 ND.length c10, .slice B10 SD.length d10] 44)) := hb10.alloc hb10.size _
        have hX11 := (unhide HX).next hba
        have hR11 := Blk.new w10 44 #[.int .i64 cD, .slice A10 ND.length c10, .slice B10 SD.length d10]
        have hn11 := OwnI.ints (show OwnI _ wc.heap.size _ ND from World.ownsRow.alloc hn10 (.cells #[.int .i64 cD, .slice A10 ND.length c10, .slice B10 SD.length d10] 44))
        have hs11 := ownT_strs (show OwnT _ wc.heap.size _ SD from World.ownsRow.alloc hs10 (.cells #[.int .i64 cD, .slice A10 ND.length c10, .slice B10 SD.length d10] 44))
        have hag := told_again hr10 (by omega)
        have htell := ftell_any ⟨cD, ND, SD⟩ _ _ _ hn11 hs11 hag.2
        rw [hag.1] at htell
        have r0 := hR11.cell 0; have r1 := hR11.cell 1; have r2 := hR11.cell 2
        simp only [List.getElem?_toArray, List.getElem?_cons_zero, List.getElem?_cons_succ] at r0 r1 r2
        have y1 : (line.toList == line.toList) = true := beq_self_eq_true _
        have HX11 := hide hX11; have HT := hide htell
        clear hX11 hR11 hba hb10 hn10 hs10 hn11 hs11 hag htell hr10 HX HQ
        go_wp2_with fail
        refine (unhide HT).mono ?_
        rintro e12 w12 ⟨rfl, hb12⟩
        have HX12 := hide ((unhide HX11).next hb12)
        clear hb12 HX11 HT r0 r1 r2
        go_wp2_with fail
        go_ret
        exact ⟨rfl, (unhide HX12).b⟩
      · have hX11 := (unhide HX).next (hb10.alloc hb10.size (.cells #[.int .i64 0, .slice none 0 0, .slice none 0 0] 44))
        have HX11 := hide hX11
        clear hX11 hb10 HX HQ hr10
        go_wp2_with fail
        go_ret
        exact ⟨rfl, (unhide HX11).b⟩
set_option maxRecDepth 100000 in
theorem frontLines_walk {H : Type} {enc : TypeId × Value → H} (W : World) (base : Nat) (v0 : Value) (d0 : DataW H) (p0 : List MemPlace) (v1 : Value) (d1 : DataW H) (p1 : List MemPlace) (v2 : Value) (d2 : DataW H) (p2 : List MemPlace) (o0 : Value.okWide Tryz.prog W .any base 25 v0) (h0 : DataW.Trod enc Tryz.prog W 0 (fun _ => true) true 25 v0 d0 p0) (l0 : ∀ x ∈ p0, x.block < W.heap.size) (o1 : Value.okWide Tryz.prog W .any base 44 v1) (h1 : DataW.Trod enc Tryz.prog W 0 (fun _ => true) true 44 v1 d1 p1) (l1 : ∀ x ∈ p1, x.block < W.heap.size) (o2 : Value.okWide Tryz.prog W .any base 9 v2) (h2 : DataW.Trod enc Tryz.prog W 0 (fun _ => true) true 9 v2 d2 p2) (l2 : ∀ x ∈ p2, x.block < W.heap.size) (hz : (DataW.weightsEach Tryz.prog [25, 44, 9] ([d0, d1, d2] : List (DataW H))).all (· ≤ reachBytes) = true) (hk : Rows.uptoBulkAll ([d0, d1, d2] : List (DataW H)) ≤ 1048576) (hL : laidMetH Tryz.prog Rows.frontLinesUptoRow.laid W) (hsh : W.ShapedOpen Tryz.prog) :
    Calls Tryz.prog 4 #[v0, v1, v2] W fun e W' => e = .returned (.bool true) ∧ Below W.heap.size W W' := by
  obtain ⟨c, cn, cs, CN, CS, rfl, hCN, hCS, hci, hb0⟩ := open_call o0 h0
  obtain ⟨z, vn, vs, N, S, rfl, hz1, hN, hS, hi, hb1⟩ := open_reply o1 h1
  obtain ⟨s, rfl, rfl, -⟩ := Go.ChangeMaps.open_string Tryz.underlying9 o2 h2
  simp only [Rows.uptoBulkAll, Rows.uptoBulk, Array.length_toList] at hk
  have hsz : s.data.size = s.size := rfl
  exact lawFrontLines_any c CN CS cn cs z N S vn vs s W hCN hCS hci hz1 hN hS hi (by omega) (by omega) (by omega)
end Go.Proofs.YtnkioabdpploeaaGreatDoor

/-
  CONTRACTS of the document's kindOf, numbersOf, lines.
-/
import Derived.Test.YtnkioabdpploeaaGreatDoorRows
import Derived.Test.YtnkioabdpploeaaGreatDoorGBase
import Derived.Test.YtnkioabdpploeaaGreatDoorGLns
import Derived.Test.YtnkioabdpploeaaGreatDoorSRRow
import Derived.Test.YtnkioabdpploeaaGreatDoorSTwinI
import Derived.Test.YtnkioabdpploeaaGreatDoorSStepP
set_option linter.unusedVariables false
set_option linter.unusedSimpArgs false
namespace Go.Proofs.YtnkioabdpploeaaGreatDoor
open Go.RowKit Go.Lib
theorem wpList_appI1 {ops : Array Oper} {rest : List Oper} {o : Oper} {a : Act} {Q : Exit → Act → World → Prop} (w : World) (hgd : o.guard = none) (s x : Operand)
    (ho : o.op = .call { callee := .builtin .append, args := #[s, x], argTypes := #[22, 22] })
    {base : Nat} {v : Value} {es : List Int} (hown : OwnI w base v es) (hs : a.eval s = v) {z : Int} (hx : a.eval x = .slice (some ⟨w.heap.size, 0, none⟩) 1 1)
    (h47 : es.length + 1 ≤ 4398046511104) (hbase : base ≤ w.heap.size)
    (h : ∀ v' w', OwnI w' base v' (es ++ [z]) → (w.alloc (.cells #[.int .i64 z] 3)).grownBy w' v.ownBlock → (v'.ownBlock = v.ownBlock ∨ v'.ownBlock = some (w.heap.size + 1)) → wpList Tryz.prog ops Q rest (a.put o.dst v') w') :
    wpList Tryz.prog ops Q (o :: rest) a (w.alloc (.cells #[.int .i64 z] 3)) := by
  refine wpList_appI _ hgd s x ho (World.ownsRow.alloc hown _) hs (es2 := [z]) ⟨some ⟨w.heap.size, 0, none⟩, 1, rfl, fun j hj => ⟨_, rfl, ?_⟩⟩ hx (by simpa using h47) (by simp; omega) (fun v' w' h1 h2 h3 => h v' w' h1 h2 (by simpa using h3))
  obtain rfl : j = 0 := by simp at hj; exact hj
  have hadd : (⟨w.heap.size, 0, none⟩ : Addr).add 0 = ⟨w.heap.size, 0, none⟩ := by unfold Addr.add; simp
  rw [hadd, (Blk.new w 3 #[.int .i64 z]).cell 0]
  rfl
theorem appI_below {B : Nat} {w W W' : World} {v : Value} {es : List Int} {o : Obj} (hb : Below B w W) (hO : OwnI W B v es) (hW : B ≤ W.heap.size) (hg : (W.alloc o).grownBy W' v.ownBlock) : Below B w W' :=
  (hb.alloc hW o).grown hg (by simp; omega) (fun k hk => (World.ownsRow.lt hO k hk).1)
end Go.Proofs.YtnkioabdpploeaaGreatDoor

/-
  Write, the operation.
-/
import Derived.Test.YtcdmdkgiabfbeaaDoorWrite
namespace Go.Proofs.YtcdmdkgiabfbeaaDoor
open Go.RowKit

theorem enters_write1 : Enters 44 := fun _ _ => by kernel_rfl

set_option maxHeartbeats 1000000 in
theorem write_any (sb : Nat) (id : Int) (y : Value) (xs : List UInt8) (g : G) (w : World) (m : Mem) (hm : Has w m) (hr : SRep m sb g) (hG : GlobOk m) (h0 : ¬ FP sb g 0) (hn : g.n ≤ 999999)
    (hy : WindZ m y xs) (hna : 0 < xs.length → ∀ b, y.ownBlk = some b → ¬ FP sb g b) (hxl : xs.length ≤ 1000000) :
    Calls Tryd.prog 13 #[.pointer (some ⟨sb, 0, none⟩), .int .i64 id, y] w
      (Ans w (OpR m sb g (fun _ => False) (A.withA g.abs id () (writeF (id - 1).toNat xs)) (fun _ _ => True))) := by
  have hfr := hm.fresh (Nat.le_refl w.heap.size)
  have h1 := hm.alloc (.cells #[y] 33)
  have l1 := Mem.le_set m (.cells #[y] 33) hfr
  have hnsb := Mem.ne_of_none hfr hr.store
  have hW := with_op () (writeF (id - 1).toNat xs) (fun _ _ => True) (fun _ => False) sb id g 44 #[.pointer (some ⟨w.heap.size, 0, none⟩)] _ _ h1 (hr.le l1) (hG.le l1) h0 (fun h => h) hn enters_write1
    (fun k h hk hid w1 m1 l2 hw1 hr1 => by
      have hbox : m1 w.heap.size = some (.cells #[y] 33 (0, 0)) := l2 _ _ (by
        rw [Mem.set_ne _ _ hnsb]
        exact Mem.set_same _ _ _)
      have hk' : (id - 1).toNat = k := by omega
      rw [hk']
      have hy1 : WindZ m1 y xs := hy.keep fun hp b o hb hm => l2 _ _ (by
        rw [Mem.set_ne _ _ (fun e => hna hp b hb (.inl e))]
        exact l1 _ _ hm)
      exact write1_any sb k w.heap.size g.tick h y xs g.now w1 m1 hw1 hr1 hk hbox hy1 hna hxl)
    (fun _ _ => trivial)
  obtain ⟨ya, yc, rfl⟩ := hy.shape
  have HW := Lib.hid hW
  have L1 := Lib.hid l1
  clear hm hr hG h1 l1 hW hfr hy hna hnsb
  go_enter Tryd.func13, Tryd.ntmps13
  go_wp2_with fail
  refine HW.out.mono ?_
  rintro e w2 ⟨x, m2, rfl, h2, n2, hx⟩
  have H2 := Lib.hid h2
  have N2 := Lib.hid n2
  have HX := Lib.hid hx
  clear h2 n2 hx
  go_wp2_with fail
  go_ret
  exact ⟨x, m2, rfl, H2.out, ((Env.refl w).alloc _).trans N2.out, HX.out.ahead L1.out (fun _ h => h.elim) (fun _ => trivial)⟩
end Go.Proofs.YtcdmdkgiabfbeaaDoor

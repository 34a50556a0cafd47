/-
  Create's question: is there no room?
-/
import Derived.Test.YtcdmdkgiabfbeaaDoorAsks
import Derived.Deep.RegionHeld3
namespace Go.Proofs.YtcdmdkgiabfbeaaDoor
open Go.RowKit

/-- Create has no room. -/
def cfullB (g : G) (s : ByteArray) : Bool := fullB g.O || ((getE g.L s).isNone && decide (100 ≤ (g.L.length : Int)))

set_option maxHeartbeats 1000000 in
theorem cfull1_any (p q sb : Nat) (g : G) (s : ByteArray) (w : World) (m : Mem) (hm : Has w m) (hr : SRep m sb g) (hp : BoxS m p sb) (hq : BoxN m q s) :
    Calls Tryd.prog 37 #[.pointer (some ⟨p, 0, none⟩), .pointer (some ⟨q, 0, none⟩)] w (Post w m fun v _ => v = .bool (cfullB g s)) := by
  have c0 : w.cell? ⟨p, 0, none⟩ = some (.pointer (some ⟨sb, 0, none⟩)) := by rw [hm.cell hp]; rfl
  have c1 : w.cell? ⟨q, 0, none⟩ = some (.string s) := by rw [hm.cell hq]; rfl
  have c2 : w.cell? ⟨sb, 0, none⟩ = some (.map (some g.mb)) := by rw [hm.cell hr.store]; rfl
  have hlk : ∀ n, (Instr.lookup 51 (.map (some g.mb)) (.string s) false).run Tryd.prog (w.drewN n) = .ok (lookV g.L s) (w.drewN n) := fun n => run_lookupF g.mb g.clock g.L s _ (hm _ _ hr.map)
  have hln : ∀ n T, (Builtin.len_ #[51] T #[.map (some g.mb)]).run Tryd.prog (w.drewN n) = .ok (.int .i64 g.L.length) (w.drewN n) := fun n T => run_lenF g.mb g.clock g.L _ T (hm _ _ hr.map)
  have H := Lib.hid hm
  have HR := Lib.hid hr
  have hll := hr.llen
  clear hm hr hp hq
  cases hb : fullB g.O with
  | true =>
    have hd : decide (32 ≤ (nOpen g.O : Int)) = true := hb
    have HV : Hid (cfullB g s = true) := by show _ = _; rw [cfullB, hb]; rfl
    rw [HV.out]
    clear hb
    go_enter Tryd.func37, Tryd.ntmps37
    go_wp2_with fail
    go_quiet ((go_at_call 23; exact Calls.quiet_of_same (many_same sb g _ _ (H.out.drewN _) HR.out)))
    go_wp2_with fail
    go_ret
    exact Post.mk m (Mem.le_refl _) (H.out.drewN _) ((Env.refl w).drewN _) rfl
  | false =>
    have hd : decide (32 ≤ (nOpen g.O : Int)) = false := hb
    cases hx : getE g.L s with
    | some e =>
      rw [lookV_some hx] at hlk
      have HV : Hid (cfullB g s = false) := by show _ = _; rw [cfullB, hb, hx]; rfl
      rw [HV.out]
      clear hb hx
      go_enter Tryd.func37, Tryd.ntmps37
      go_wp2_with fail
      go_quiet ((go_at_call 23; exact Calls.quiet_of_same (many_same sb g _ _ (H.out.drewN _) HR.out)))
      go_wp2_with fail
      go_ret
      exact Post.mk m (Mem.le_refl _) (H.out.drewN _) ((Env.refl w).drewN _) rfl
    | none =>
      rw [lookV_none hx] at hlk
      have HV : Hid (cfullB g s = decide (100 ≤ (g.L.length : Int))) := by show _ = _; rw [cfullB, hb, hx]; rfl
      rw [HV.out]
      clear hb hx
      go_enter Tryd.func37, Tryd.ntmps37
      go_wp2_with fail
      go_quiet ((go_at_call 23; exact Calls.quiet_of_same (many_same sb g _ _ (H.out.drewN _) HR.out)))
      go_wp2_with fail
      go_ret
      exact Post.mk m (Mem.le_refl _) (H.out.drewN _) ((Env.refl w).drewN _) rfl
theorem enters_cfull1 : Enters 37 := fun _ _ => by kernel_rfl
end Go.Proofs.YtcdmdkgiabfbeaaDoor

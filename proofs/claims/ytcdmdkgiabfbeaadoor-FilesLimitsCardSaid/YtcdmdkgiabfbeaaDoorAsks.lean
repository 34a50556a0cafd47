/-
  The questions that the checks ask of a store: there, taken, full; and the checks there.
-/
import Derived.Test.YtcdmdkgiabfbeaaDoorRep
import Derived.Test.YtcdmdkgiabfbeaaDoorFirst
import Derived.LaidEqlPtr
namespace Go.Proofs.YtcdmdkgiabfbeaaDoor
open Go.RowKit

/-- A closure's boxes: the store's pointer, a name. -/
def BoxS (m : Mem) (p sb : Nat) : Prop := m p = some (.cells #[.pointer (some ⟨sb, 0, none⟩)] 24 (0, 0))
def BoxN (m : Mem) (p : Nat) (s : ByteArray) : Prop := m p = some (.cells #[.string s] 9 (0, 0))

theorem lookV_none {L : List Ent} {s : ByteArray} (h : getE L s = none) : lookV L s = .pointer none := by simp [lookV, h]
theorem lookV_some {L : List Ent} {s : ByteArray} {e : Ent} (h : getE L s = some e) : lookV L s = .pointer (some ⟨e.fb, 0, none⟩) := by simp [lookV, h]

set_option maxHeartbeats 400000 in
theorem there1_any (p q sb : Nat) (g : G) (s : ByteArray) (w : World) (m : Mem) (hm : Has w m) (hr : SRep m sb g) (hp : BoxS m p sb) (hq : BoxN m q s) :
    Calls Tryd.prog 53 #[.pointer (some ⟨p, 0, none⟩), .pointer (some ⟨q, 0, none⟩)] w (Post w m fun v _ => v = .bool (getE g.L s).isNone) := by
  have c0 : w.cell? ⟨p, 0, none⟩ = some (.pointer (some ⟨sb, 0, none⟩)) := by rw [hm.cell hp]; rfl
  have c1 : w.cell? ⟨q, 0, none⟩ = some (.string s) := by rw [hm.cell hq]; rfl
  have c2 : w.cell? ⟨sb, 0, none⟩ = some (.map (some g.mb)) := by rw [hm.cell hr.store]; rfl
  have hlk : ∀ n, (Instr.lookup 51 (.map (some g.mb)) (.string s) false).run Tryd.prog (w.drewN n) = .ok (lookV g.L s) (w.drewN n) := fun n => run_lookupF g.mb g.clock g.L s _ (hm _ _ hr.map)
  have H := Lib.hid hm
  clear hm hr hp hq
  cases hx : getE g.L s with
  | none =>
    rw [lookV_none hx] at hlk
    clear hx
    go_enter Tryd.func53, Tryd.ntmps53
    go_wp2_with fail
    go_quiet (fail)
    go_wp2_with fail
    go_ret
    exact Post.mk m (Mem.le_refl _) (H.out.drewN _) ((Env.refl w).drewN _) rfl
  | some e =>
    rw [lookV_some hx] at hlk
    clear hx
    go_enter Tryd.func53, Tryd.ntmps53
    go_wp2_with fail
    go_quiet (fail)
    go_wp2_with fail
    go_ret
    exact Post.mk m (Mem.le_refl _) (H.out.drewN _) ((Env.refl w).drewN _) rfl

theorem enters_there1 : Enters 53 := fun _ _ => by kernel_rfl

set_option maxHeartbeats 400000 in
theorem there_any (sb : Nat) (g : G) (s : ByteArray) (w : World) (m : Mem) (hm : Has w m) (hr : SRep m sb g) :
    Calls Tryd.prog 27 #[.pointer (some ⟨sb, 0, none⟩), .string s] w (Post w m fun v m' => IsCheck m' v (-38) (getE g.L s).isNone) := by
  have H := Lib.hid hm
  have HR := Lib.hid hr
  clear hm hr
  go_enter Tryd.func27, Tryd.ntmps27
  go_wp2_with fail
  have e1 := H.out.alloc (.cells #[.pointer (some ⟨sb, 0, none⟩)] 24)
  have e2 := e1.alloc (.cells #[.string s] 9)
  have l1 := Mem.le_set m (.cells #[.pointer (some ⟨sb, 0, none⟩)] 24) (H.out.fresh (Nat.le_refl _))
  have l2 := Mem.le_set _ (.cells #[.string s] 9) (e1.fresh (Nat.le_refl _))
  have b1 := l2 _ _ (Mem.set_same m w.heap.size (.cells #[.pointer (some ⟨sb, 0, none⟩)] 24))
  have b2 := Mem.set_same (m.set w.heap.size (.cells #[.pointer (some ⟨sb, 0, none⟩)] 24)) (w.alloc (.cells #[.pointer (some ⟨sb, 0, none⟩)] 24)).heap.size (.cells #[.string s] 9)
  refine (when_any (-38) _ _ (getE g.L s).isNone _ _ e2 ⟨_, _, rfl, enters_there1, fun w1 m1 k h => ?_⟩).mono ?_
  · exact there1_any _ _ sb g s w1 m1 h ((HR.out.le (Mem.le_trans l1 l2)).le k) (k _ _ b1) (k _ _ (by simpa using b2))
  rintro e w2 ⟨v, m2, rfl, k2, h2, n2, hv⟩
  have L1 := Lib.hid (Mem.le_trans l1 l2)
  have L2 := Lib.hid k2
  have H2 := Lib.hid h2
  have N2 := Lib.hid n2
  have HV := Lib.hid hv
  clear l1 l2 b1 b2 e1 e2 k2 h2 n2 hv
  go_wp2_with fail
  go_ret
  exact Post.mk _ (Mem.le_trans L1.out L2.out) H2.out ((((Env.refl w).alloc _).alloc _).trans N2.out) HV.out

def fullB (O : List (Option Hnd)) : Bool := decide (32 ≤ (nOpen O : Int))

set_option maxHeartbeats 400000 in
theorem ofull1_any (p sb : Nat) (g : G) (w : World) (m : Mem) (hm : Has w m) (hr : SRep m sb g) (hp : BoxS m p sb) :
    Calls Tryd.prog 22 #[.pointer (some ⟨p, 0, none⟩)] w (Post w m fun v _ => v = .bool (fullB g.O)) := by
  have c0 : w.cell? ⟨p, 0, none⟩ = some (.pointer (some ⟨sb, 0, none⟩)) := by rw [hm.cell hp]; rfl
  have H := Lib.hid hm
  have HR := Lib.hid hr
  clear hm hr hp
  go_enter Tryd.func22, Tryd.ntmps22
  go_wp2_with fail
  refine (many_any sb g w m H.out HR.out).mono ?_
  rintro e w2 ⟨v, m2, rfl, l2, h2, n2, rfl⟩
  have L2 := Lib.hid l2
  have H2 := Lib.hid h2
  have N2 := Lib.hid n2
  clear l2 h2 n2
  go_wp2_with fail
  go_ret
  exact Post.mk _ L2.out H2.out N2.out rfl
theorem enters_ofull1 : Enters 22 := fun _ _ => by kernel_rfl
end Go.Proofs.YtcdmdkgiabfbeaaDoor

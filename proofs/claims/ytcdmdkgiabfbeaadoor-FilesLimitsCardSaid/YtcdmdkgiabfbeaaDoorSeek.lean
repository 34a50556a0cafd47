/-
  Seek.
-/
import Derived.Test.YtcdmdkgiabfbeaaDoorOp
namespace Go.Proofs.YtcdmdkgiabfbeaaDoor
open Go.RowKit

def seekF (i : Nat) (n : Int) (t : A) (h : H3) (_ : Fail3) : A × Int × Unit :=
  if n < 0 ∨ ((t.bytes h.1).length : Int) < n then (t, -36, ()) else (t.setH i (some (h.1, h.2.1, n.toNat)), 0, ())

set_option maxHeartbeats 1000000 in
theorem seek1_any (sb k p : Nat) (g : G) (h : Hnd) (n : Int) (fl : Fail3) (w : World) (m : Mem) (hm : Has w m) (hr : SRep m sb g) (hk : g.O[k]? = some (some h)) (hp : BoxI m p n) :
    Calls Tryd.prog 42 #[.pointer (some ⟨h.ob, 0, none⟩), failV fl, .pointer (some ⟨p, 0, none⟩)] w
      (DoR w m sb g (fun _ => False) (seekF k n g.abs h.abs fl) (fun _ _ => True)) := by
  obtain ⟨e, he, hfb, hname, hlook⟩ := hr.fileOf hk
  have hob := hr.hnd h (List.mem_of_getElem? hk)
  have hrow := hr.row e he
  obtain ⟨ba, bc, hbv, hbc⟩ := hrow.lenV
  have hfile := hr.file e he
  rw [hfb] at hfile
  have c0 : w.cell? ⟨p, 0, none⟩ = some (.int .i64 n) := by rw [hm.cell hp]; rfl
  have c1 : w.cell? ⟨h.ob, 0, none⟩ = some (.pointer (some ⟨h.fb, 0, none⟩)) := by rw [hm.cell hob]; rfl
  have c2 : w.cell? ⟨h.ob, 2, none⟩ = some (.int .i64 h.pos) := by rw [hm.cell hob]; rfl
  have f2 : w.frozen? ⟨h.ob, 2, none⟩ = false := hm.froz hob
  have c3 : w.cell? ⟨h.fb, 0, none⟩ = some (.slice ba e.bs.length bc) := by rw [hm.cell hfile, ← hbv]; rfl
  have l0 := hm.lt hp
  have l1 := hm.lt hob
  have l2 := hm.lt hfile
  have hbs : g.abs.bytes h.name = e.bs := by unfold A.bytes; rw [hlook]; rfl
  have hsz := hr.bsz e he
  have HBS := Lib.hid hbs
  have H := Lib.hid hm
  have HR := Lib.hid hr
  have HK := Lib.hid hk
  have HOB := Lib.hid hob
  obtain ⟨f0, f1, fs⟩ := fl
  clear hm hr hob hrow hfile hbs hlook hp hbv he hname hfb
  simp only [failV]
  by_cases h1 : n < 0
  · have HF : Hid (seekF k n g.abs h.abs (f0, f1, fs) = (g.abs, -36, ())) := by
      show _ = _; unfold seekF; rw [if_pos (.inl h1)]
    go_enter Tryd.func42, Tryd.ntmps42
    go_wp2_with fail
    go_quiet (fail)
    go_wp2_with fail
    refine (refuse_any (-36) _ _ ((H.out.keep _).drewN _) (by decide)).mono ?_
    rintro e w2 ⟨v, m2, rfl, l2, h2, n2, hv⟩
    have L2 := Lib.hid l2
    have H2 := Lib.hid h2
    have N2 := Lib.hid n2
    have HV := Lib.hid hv
    clear l2 h2 n2 hv
    go_wp2_with fail
    go_ret
    rw [HF.out]
    exact ⟨v, -36, m2, rfl, H2.out, (((Env.refl w).alloc _).drewN _).trans N2.out, HV.out, g, HR.out.le L2.out, (Fr.of_le L2.out _).mono (fun b hb => .inl (.inl hb)), rfl, rfl, trivial⟩
  · by_cases h2 : (e.bs.length : Int) < n
    · have HF : Hid (seekF k n g.abs h.abs (f0, f1, fs) = (g.abs, -36, ())) := by
        show _ = _; unfold seekF; rw [if_pos (.inr (by show ((g.abs.bytes h.name).length : Int) < n; rw [HBS.out]; exact h2))]
      go_enter Tryd.func42, Tryd.ntmps42
      go_wp2_with fail
      go_quiet (fail)
      go_wp2_with fail
      refine (refuse_any (-36) _ _ ((H.out.keep _).drewN _) (by decide)).mono ?_
      rintro e w2 ⟨v, m2, rfl, l2, h2, n2, hv⟩
      have L2 := Lib.hid l2
      have H2 := Lib.hid h2
      have N2 := Lib.hid n2
      have HV := Lib.hid hv
      clear l2 h2 n2 hv
      go_wp2_with fail
      go_ret
      rw [HF.out]
      exact ⟨v, -36, m2, rfl, H2.out, (((Env.refl w).alloc _).drewN _).trans N2.out, HV.out, g, HR.out.le L2.out, (Fr.of_le L2.out _).mono (fun b hb => .inl (.inl hb)), rfl, rfl, trivial⟩
    · have HF : Hid (seekF k n g.abs h.abs (f0, f1, fs) = (g.abs.setH k (some (h.name, h.mode, n.toNat)), 0, ())) := by
        show _ = _; unfold seekF; rw [if_neg (by show ¬ (n < 0 ∨ ((g.abs.bytes h.name).length : Int) < n); rw [HBS.out]; omega)]; rfl
      go_enter Tryd.func42, Tryd.ntmps42
      go_wp2_with fail
      go_quiet (fail)
      go_wp2_with fail
      go_ret
      rw [HF.out]
      have hst := ((H.out.keep (.cells #[.int .i64 f0, .int .i64 f1, .int .i64 fs] 54)).drewN nq).storeTo (off := 2) (c' := #[.pointer (some ⟨h.fb, 0, none⟩), .int .i64 h.mode, .int .i64 n]) HOB.out (.int .i64 n) (by simp)
      have hnn : ((n.toNat : Nat) : Int) = n := by omega
      have hobj : (.cells #[.pointer (some ⟨h.fb, 0, none⟩), .int .i64 h.mode, .int .i64 n] 80 (0, 0) : Obj) = hndObj { h with mode := h.mode, pos := n.toNat } := by
        unfold hndObj; simp only [hnn]
      rw [hobj] at hst
      refine ⟨.nilIface, 0, _, rfl, hst, ((((Env.refl w).alloc _).drewN _).setCell _ _), .inl ⟨rfl, rfl⟩, _, HR.out.setH HK.out h.mode n.toNat (by omega), (SRep.setH_fr HK.out h.mode n.toNat _).more _, ?_, rfl, trivial⟩
      rw [abs_setH _ _ _ ((List.getElem?_eq_some_iff.1 HK.out).1)]; rfl
theorem enters_seek1 : Enters 42 := fun _ _ => by kernel_rfl

set_option maxHeartbeats 1000000 in
theorem seek_any (sb : Nat) (id n : Int) (g : G) (w : World) (m : Mem) (hm : Has w m) (hr : SRep m sb g) (hG : GlobOk m) (h0 : ¬ FP sb g 0) (hn : g.n ≤ 999999) :
    Calls Tryd.prog 12 #[.pointer (some ⟨sb, 0, none⟩), .int .i64 id, .int .i64 n] w
      (Ans w (OpR m sb g (fun _ => False) (A.withA g.abs id () (seekF (id - 1).toNat n)) (fun _ _ => True))) := by
  have hfr := hm.fresh (Nat.le_refl w.heap.size)
  have h1 := hm.alloc (.cells #[.int .i64 n] 3)
  have l1 := Mem.le_set m (.cells #[.int .i64 n] 3) hfr
  have hW := with_op () (seekF (id - 1).toNat n) (fun _ _ => True) (fun _ => False) sb id g 42 #[.pointer (some ⟨w.heap.size, 0, none⟩)] _ _ h1 (hr.le l1) (hG.le l1) h0 (fun h => h) hn enters_seek1
    (fun k h hk hid w1 m1 l2 hw1 hr1 => by
      have hbox : BoxI m1 w.heap.size n := l2 _ _ (by
        rw [Mem.set_ne _ _ (Mem.ne_of_none hfr hr.store)]
        exact Mem.set_same _ _ _)
      have hk' : (id - 1).toNat = k := by omega
      rw [hk']
      exact seek1_any sb k w.heap.size g.tick h n g.now w1 m1 hw1 hr1 hk hbox)
    (fun _ _ => trivial)
  have HW := Lib.hid hW
  have L1 := Lib.hid l1
  clear hm hr hG h1 l1 hW hfr
  go_enter Tryd.func12, Tryd.ntmps12
  go_wp2_with fail
  refine HW.out.mono ?_
  rintro e w2 ⟨x, m2, rfl, h2, n2, hx⟩
  have H2 := Lib.hid h2
  have N2 := Lib.hid n2
  have HX := Lib.hid hx
  clear h2 n2 hx
  go_wp2_with fail
  go_ret
  exact ⟨x, m2, rfl, H2.out, ((Env.refl w).alloc _).trans N2.out, HX.out.ahead L1.out (fun _ h => h.elim) (fun _ => trivial)⟩
end Go.Proofs.YtcdmdkgiabfbeaaDoor

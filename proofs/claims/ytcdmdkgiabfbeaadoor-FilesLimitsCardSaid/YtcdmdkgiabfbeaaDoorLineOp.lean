/-
  Line, the operation.
-/
import Derived.Test.YtcdmdkgiabfbeaaDoorLine
import Derived.BigRegion
namespace Go.Proofs.YtcdmdkgiabfbeaaDoor
open Go.RowKit

/-- What Line answers. -/
def AnsL (w : World) (R : Value → Bool → Mem → Int → Prop) (e : Ending) (w2 : World) : Prop :=
  ∃ v b x m2, e = .returned (.tuple #[v, .bool b, .int .i64 x]) ∧ Has w2 m2 ∧ Env w w2 ∧ R v b m2 x

theorem enters_line1 : Enters 32 := fun _ _ => by kernel_rfl

set_option maxHeartbeats 2000000 in
theorem line_any (sb : Nat) (id most : Int) (g : G) (w : World) (m : Mem) (hm : Has w m) (hr : SRep m sb g) (hG : GlobOk m) (h0 : ¬ FP sb g 0) (hn : g.n ≤ 999999) :
    Calls Tryd.prog 9 #[.pointer (some ⟨sb, 0, none⟩), .int .i64 id, .int .i64 most] w
      (AnsL w fun v b m2 x => OpR m sb g (fun _ => False) (A.withA g.abs id ([], false) (lineF (id - 1).toNat most)) (fun m2 y => OutB m v m2 y.1 ∧ b = y.2) m2 x) := by
  have hfr := hm.fresh (Nat.le_refl w.heap.size)
  have h1 := hm.alloc (.cells #[.int .i64 most] 3)
  have l1 := Mem.le_set m (.cells #[.int .i64 most] 3) hfr
  have hfr2 := h1.fresh (Nat.le_refl _)
  have h2 := h1.alloc (.cells #[.slice none 0 0] 33)
  have l2 := Mem.le_set _ (.cells #[.slice none 0 0] 33) hfr2
  have hfr3 := h2.fresh (Nat.le_refl _)
  have h3 := h2.alloc (.cells #[.bool false] 4)
  have l3 := Mem.le_set _ (.cells #[.bool false] 4) hfr3
  have hsz : (w.alloc (.cells #[.int .i64 most] 3)).heap.size = w.heap.size + 1 := by simp
  have hsz2 : ((w.alloc (.cells #[.int .i64 most] 3)).alloc (.cells #[.slice none 0 0] 33)).heap.size = w.heap.size + 2 := by simp
  rw [hsz] at h2 l2 hfr2 h3 l3 hfr3
  rw [hsz2] at h3 l3 hfr3
  have l13 := Mem.le_trans l1 (Mem.le_trans l2 l3)
  have hE0 : ¬ ((0 : Nat) = w.heap.size + 1 ∨ (0 : Nat) = w.heap.size + 2) := by omega
  have hnsb : sb ≠ w.heap.size := Ne.symm (Mem.ne_of_none hfr hr.store)
  have hnsb2 : sb ≠ w.heap.size + 1 := Ne.symm (Mem.ne_of_none hfr2 (l1 _ _ hr.store))
  have hnsb3 : sb ≠ w.heap.size + 2 := Ne.symm (Mem.ne_of_none hfr3 (l2 _ _ (l1 _ _ hr.store)))
  have hb0 : BoxB m (w.heap.size + 1) ((((m.set w.heap.size (.cells #[.int .i64 most] 3)).set (w.heap.size + 1) (.cells #[.slice none 0 0] 33)).set (w.heap.size + 2) (.cells #[.bool false] 4)).set sb (storeObj g.tick)) [] :=
    ⟨.slice none 0 0, by rw [Mem.set_ne _ _ (Ne.symm hnsb2), Mem.set_ne _ _ (by omega), Mem.set_same], Row.nil _ _ _, fun b hb => by cases hb⟩
  have ht0 : BoxT ((((m.set w.heap.size (.cells #[.int .i64 most] 3)).set (w.heap.size + 1) (.cells #[.slice none 0 0] 33)).set (w.heap.size + 2) (.cells #[.bool false] 4)).set sb (storeObj g.tick)) (w.heap.size + 2) false := by
    unfold BoxT; rw [Mem.set_ne _ _ (Ne.symm hnsb3), Mem.set_same]
  have hW := with_op ([], false) (lineF (id - 1).toNat most) (BoxL m (w.heap.size + 1) (w.heap.size + 2)) (fun b => b = w.heap.size + 1 ∨ b = w.heap.size + 2) sb id g 32 #[.pointer (some ⟨w.heap.size + 2, 0, none⟩), .pointer (some ⟨w.heap.size, 0, none⟩), .pointer (some ⟨w.heap.size + 1, 0, none⟩)] _ _ h3 (hr.le l13) (hG.le l13) h0 hE0 hn enters_line1
    (fun k h hk hid w1 m1 l4 hw1 hr1 => by
      have hbox : BoxI m1 w.heap.size most := l4 _ _ (by
        rw [Mem.set_ne _ _ (Ne.symm hnsb), Mem.set_ne _ _ (by omega), Mem.set_ne _ _ (by omega)]
        exact Mem.set_same _ _ _)
      have hk' : (id - 1).toNat = k := by omega
      rw [hk']
      obtain ⟨v, b1, b2⟩ := hb0
      exact line1_any sb k w.heap.size (w.heap.size + 1) (w.heap.size + 2) g.tick h most g.now w1 m m1 hw1 hr1 hk hbox ⟨v, l4 _ _ b1, b2.le l4⟩ (l4 _ _ ht0) (fun b hb => Mem.none_set (Mem.none_set (Mem.none_set (Mem.none_set (Mem.none_le l4 hb))))))
    (fun m1 l4 => by obtain ⟨v, b1, b2⟩ := hb0; exact ⟨⟨v, l4 _ _ b1, b2.le l4⟩, l4 _ _ ht0⟩)
  have HW := Lib.hid hW
  have L13 := Lib.hid l13
  have HFR2 := Lib.hid hfr2
  have HFR3 := Lib.hid hfr3
  clear hm hr hG h1 h2 h3 l1 l2 l3 l13 hW hfr hfr2 hfr3 hb0 ht0 hnsb hnsb2 hnsb3 hsz hsz2 hE0
  go_enter Tryd.func9, Tryd.ntmps9
  go_wp2_with fail
  refine HW.out.mono ?_
  rintro e w2 ⟨x, m2, rfl, h2, n2, hx⟩
  obtain ⟨g2, x1, x2, x3, x4, x5, x6⟩ := hx
  obtain ⟨v, hv1, hv2⟩ := x5
  obtain ⟨va, vc, rfl, hvc⟩ := hv2.1.lenV
  unfold BoxT at x6
  obtain ⟨y, hy⟩ : ∃ y, (A.withA g.abs id ([], false) (lineF (id - 1).toNat most)).2.2 = y := ⟨_, rfl⟩
  obtain ⟨zs, mo⟩ := y
  rw [hy] at hv1 hv2 x6
  have c0 : w2.cell? ⟨w.heap.size + 1, 0, none⟩ = some (.slice va zs.length vc) := by rw [h2.cell (o := 0) hv1]; rfl
  have f0 : w2.frozen? ⟨w.heap.size + 1, 0, none⟩ = false := h2.froz hv1
  have c1 : w2.cell? ⟨w.heap.size + 2, 0, none⟩ = some (.bool mo) := by rw [h2.cell (o := 0) x6]; rfl
  have f1 : w2.frozen? ⟨w.heap.size + 2, 0, none⟩ = false := h2.froz x6
  have H2 := Lib.hid h2
  have N2 := Lib.hid ((((Env.refl w).alloc (.cells #[.int .i64 most] 3)).alloc (.cells #[.slice none 0 0] 33)).alloc (.cells #[.bool false] 4) |>.trans n2)
  have X1 := Lib.hid x1
  have X2 := Lib.hid x2
  have X3 := Lib.hid x3
  have X4 := Lib.hid x4
  have HV1 := Lib.hid hv1
  have HV2 := Lib.hid hv2
  have X6 := Lib.hid x6
  have HY := Lib.hid hy
  clear h2 n2 x1 x2 x3 x4 x6 hv1 hv2 hy hvc
  generalize w.heap.size = sz at *
  go_wp2_with fail
  go_region
  all_goals
    go_wp2_with fail
    have c2 : w2.cell? ⟨sz + 1 + 1, 0, none⟩ = some (.bool mo) := c1
    refine bodyPost_ret (v := .tuple #[.slice va zs.length vc, .bool mo, .int .i64 x]) (by simp [results, Tryd.results9, go_sem, c0, c2]) rfl ?_
    refine ⟨_, mo, x, m2, rfl, ((H2.out.same (off := 0) HV1.out (by simp)).same (off := 0) X6.out (by simp)).drew, ((N2.out.setCell _ _).setCell _ _).drew, ?_⟩
    have hop : OpR _ sb g (fun b => b = sz + 1 ∨ b = sz + 2) (A.withA g.abs id ([], false) (lineF (id - 1).toNat most)) (fun m2 y => OutB m (.slice va zs.length vc) m2 y.1 ∧ mo = y.2) m2 x := ⟨g2, X1.out, X2.out, X3.out, X4.out, by rw [HY.out]; exact ⟨HV2.out, rfl⟩⟩
    exact hop.ahead L13.out (fun b hb => by
      rcases hb with rfl | rfl
      · exact Mem.none_set HFR2.out
      · exact Mem.none_set (Mem.none_set HFR3.out)) (fun h => h)
end Go.Proofs.YtcdmdkgiabfbeaaDoor

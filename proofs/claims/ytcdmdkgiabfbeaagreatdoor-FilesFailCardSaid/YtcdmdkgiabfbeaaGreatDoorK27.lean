/-
  A call on both stores is answered alike: bytes that are written (printed by does_gen.py)
-/
import Derived.Test.YtcdmdkgiabfbeaaGreatDoorK19
import Derived.Test.YtcdmdkgiabfbeaaGreatDoorK26
import Derived.Test.YtcdmdkgiabfbeaaGreatDoorK22
import Derived.Test.YtcdmdkgiabfbeaaGreatDoorK24
import Derived.Test.YtcdmdkgiabfbeaaGreatDoorK04
import Derived.Laws.BytesString
namespace Go.Proofs.YtcdmdkgiabfbeaaGreatDoor
open Go.RowKit

theorem conv_zero (a : Option Addr) (c : Nat) (w : World) : (convert 26 9 (.slice a 0 c)).run Tryz.prog w = .ok (.string ByteArray.empty) w := by
  rw [run_convert_bytes_string w 26 9 5 _ 0 c Tryz.underlying26 Tryz.underlying5 Tryz.underlying9]
  cases a <;> simp [Conv.bytesToString, loadCells]
  all_goals rfl

theorem conv_z {m : Mem} {v : Value} {bs : List UInt8} (h : WindZ m v bs) (w : World) (hm : Has w m) : (convert 26 9 v).run Tryz.prog w = .ok (.string ⟨bs.toArray⟩) w := by
  rcases h with ⟨a, c, rfl, rfl⟩ | ⟨g, o, cap, rfl, _, hc⟩
  · exact conv_zero a c w
  · have hcw := hc.at hm
    have hadd : ∀ j, (⟨g, o, none⟩ : Addr).add j = ⟨g, o + j, none⟩ := fun j => by unfold Addr.add; split <;> simp_all
    have := run_convert_bytes_arg (P := Tryz.prog) w 26 5 Tryz.underlying26 Tryz.underlying5 g o bs.length cap (bs.map fun x => (x.toNat : Int)) (by simp) (fun i hi => by
      rw [← hadd]
      exact hcw i _ (by simp [hi, byteV, List.getD_eq_getElem?_getD])) 9 Tryz.underlying9
    rw [this]
    have hb := bytes_back bs
    unfold Lib.bytesOf at hb
    unfold strOfNums
    rw [hb]

theorem run_app_z {w : World} {m : Mem} (hm : Has w m) (y : Value) (bs : List UInt8) (hy : WindZ m y bs) (hl : bs.length ≤ 1000000) :
    ∃ v' w' m', (Builtin.append_ #[26, 26] 26 #[.slice none 0 0, y]).run Tryz.prog w = .ok v' w' ∧ Env w w' ∧ Has w' m' ∧ m.le m' ∧ OutB m v' m' bs := by
  rcases hy with ⟨a, c, rfl, rfl⟩ | ⟨g, o, cap, rfl, hp, hc⟩
  · obtain ⟨i0, hi, hz0, hz1, hz2⟩ := info_parts infoB
    have hs : Src Tryz.prog i0.size 26 (.slice a 0 c) 0 [] w := by
      cases a with
      | none => exact Src.ofNil w Tryz.underlying26 c
      | some A => exact Src.ofSlice w Tryz.underlying26 A 0 c [] (by simp) (by simp) (by simp)
    exact ⟨_, _, m, run_append_nothing w 26 26 26 5 i0 Tryz.underlying26 hi none 0 0 (Nat.le_refl _) _ hs, Env.refl w, hm, Mem.le_refl _, Row.nil _ _ _, fun b hb => by cases hb⟩
  · exact run_app_bytes hm _ bs (.inr ⟨_, _, rfl, fun _ => ⟨g, o, rfl, hc⟩⟩) hl

/-- The bytes that are written, and their copy with one byte more, in a world. -/
def WQ (y bv : Value) (bs : List UInt8) (w : World) : Prop := ∃ mm, Has w mm ∧ WindZ mm bv bs ∧ Row mm y 5 1 (bs.length + 1) ((bs ++ [77]).map byteV)

theorem row_cut {mm : Mem} {ya : Option Addr} {yc : Nat} {bs : List UInt8} (h : Row mm (.slice ya (bs.length + 1) yc) 5 1 (bs.length + 1) ((bs ++ [77]).map byteV)) : Row mm (.slice ya bs.length yc) 5 1 bs.length (bs.map byteV) := by
  have h1 := h.trunc (n := bs.length) (Nat.le_succ _)
  rwa [← List.map_take, List.take_left'] at h1
  rfl
theorem WQ.conv1 {ya : Option Addr} {yc : Nat} {bv : Value} {bs : List UInt8} {w : World} (h : WQ (.slice ya (bs.length + 1) yc) bv bs w) : (convert 26 9 (.slice ya bs.length yc)).run Tryz.prog w = .ok (.string ⟨bs.toArray⟩) w := by
  obtain ⟨mm, h1, _, h3⟩ := h
  exact conv_back (row_wind (row_cut h3)) w h1
theorem WQ.conv2 {y bv : Value} {bs : List UInt8} {w : World} (h : WQ y bv bs w) : (convert 26 9 bv).run Tryz.prog w = .ok (.string ⟨bs.toArray⟩) w := by
  obtain ⟨mm, h1, h2, _⟩ := h
  exact conv_z h2 w h1
theorem WQ.last {yb yc : Nat} {bv : Value} {bs : List UInt8} {w : World} (h : WQ (.slice (some ⟨yb, 0, none⟩) (bs.length + 1) yc) bv bs w) : w.cell? ⟨yb, bs.length, none⟩ = some (.int .u8 77) ∧ yb < w.heap.size := by
  obtain ⟨mm, h1, _, h3⟩ := h
  refine ⟨?_, ?_⟩
  · rw [h3.cell h1 (j := bs.length) (by omega)]; simp [byteV]
  · obtain ⟨_, _, hc⟩ := h3.ty (b := yb) rfl
    exact h1.lt hc

/-- Behind both writes. -/
def WrR (w : World) (m : Mem) (sb rb : Nat) (g : G) (r : RG) (F : A) (g1 : G) (r2 : RG) (yb yc n : Nat) (wr : World) : Prop :=
  ∃ mr xs, Has wr mr ∧ Env w wr ∧ Two mr sb rb g1 r2 ∧ g1.abs = F ∧ Fr m mr (PP sb rb g r) (PP sb rb g1 r2) ∧ ¬ PP sb rb g1 r2 yb ∧ m yb = none ∧ Row mr (.slice (some ⟨yb, 0, none⟩) n yc) 5 1 n xs

theorem WrR.done {w wr : World} {m : Mem} {sb rb : Nat} {g g1 : G} {r r2 : RG} {F : A} {yb yc n : Nat} (h : WrR w m sb rb g r F g1 r2 yb yc n wr) : DoesR w m sb rb g r F (.returned (.bool true)) wr := by
  obtain ⟨mr, xs, h1, h2, h3, h4, h5, _⟩ := h
  exact ⟨mr, g1, r2, rfl, h1, h2, h3, h4, h5⟩
theorem WrR.step {w wr : World} {m : Mem} {sb rb : Nat} {g g1 : G} {r r2 : RG} {F : A} {yb yc n : Nat} (h : WrR w m sb rb g r F g1 r2 yb yc n wr) {i : Nat} (hi : i < n) :
    yb < wr.heap.size ∧ (∃ v, wr.cell? ⟨yb, i, none⟩ = some v) ∧ wr.frozen? ⟨yb, i, none⟩ = false ∧ WrR w m sb rb g r F g1 r2 yb yc n (wr.setCell ⟨yb, i, none⟩ (.int .u8 3)) := by
  obtain ⟨mr, xs, h1, h2, h3, h4, h5, h6, h7, h8⟩ := h
  have hxl := h8.1
  obtain ⟨a1, a2, a3, a4⟩ := h8.write (g := yb) rfl h1
  obtain ⟨o, b1, b2⟩ := a4 wr h1 i [.int .u8 3] (by simp; omega)
  refine ⟨a1, ⟨xs[i]'(by omega), by rw [a2 i (by omega), List.getElem?_eq_getElem]⟩, a3 i (by omega), _, _, b1, h2.setCell _ _, h3.keep fun b ob hb hm => ?_, h4, ⟨fun b ob hb hp => ?_, h5.new⟩, h6, h7, b2⟩
  · rw [Mem.set_ne _ _ (fun e => h6 (by rw [← e]; exact hb))]; exact hm
  · rw [Mem.set_ne _ _ (fun e => by rw [e, h7] at hb; cases hb)]; exact h5.keep b ob hb hp

set_option maxHeartbeats 2000000 in
set_option maxRecDepth 100000 in
theorem does_write (sb rb : Nat) (nm to : ByteArray) (id n : Int) (bv : Value) (bs : List UInt8) (g : G) (r : RG) (w : World) (m : Mem) (hm : Has w m) (h : Two m sb rb g r) (hG : GlobOk m) (h0 : ¬ PP sb rb g r 0) (hn : g.n ≤ 9998)
    (hw : WindZ m bv bs) (hna : 0 < bs.length → ∀ b, bv.ownBlk = some b → ¬ PP sb rb g r b) (hbl : bs.length ≤ 1000000) :
    Calls Tryz.prog 20 #[.pointer (some ⟨sb, 0, none⟩), .pointer (some ⟨rb, 0, none⟩), .agg #[.int .i64 13, .string nm, .string to, .int .i64 id, .int .i64 n, bv]] w (DoesR w m sb rb g r (g.abs.withA id () (writeF (id - 1).toNat bs)).1) := by
  have hfr := hm.fresh (Nat.le_refl w.heap.size)
  have L := Mem.le_set m (.cells #[.int .i64 13, .string nm, .string to, .int .i64 id, .int .i64 n, bv] 28) hfr
  have HM := Lib.hid (hm.alloc (.cells #[.int .i64 13, .string nm, .string to, .int .i64 id, .int .i64 n, bv] 28))
  have hkn : ∀ b, PP sb rb g r b → b ≠ w.heap.size := fun b hb e => by
    obtain ⟨o, ho⟩ := h.known hb
    rw [e, hfr] at ho; cases ho
  have h' := h.le L
  have hb : (m.set w.heap.size (.cells #[.int .i64 13, .string nm, .string to, .int .i64 id, .int .i64 n, bv] 28)) w.heap.size = some (.cells #[.int .i64 13, .string nm, .string to, .int .i64 id, .int .i64 n, bv] 28) := Mem.set_same _ _ _
  have hG' := hG.le L
  have FR0 := Lib.hid (Fr.of_le L (PP sb rb g r))
  obtain ⟨m', hm'⟩ : ∃ m', m.set w.heap.size (.cells #[.int .i64 13, .string nm, .string to, .int .i64 id, .int .i64 n, bv] 28) = m' := ⟨_, rfl⟩
  rw [hm'] at HM FR0
  have HT := Lib.hid h'
  rw [hm'] at HT
  have HB := Lib.hid hb
  rw [hm'] at HB
  have HKN := Lib.hid hkn
  rw [hm'] at hG' L
  have n0 : Env w (w.alloc (.cells #[.int .i64 13, .string nm, .string to, .int .i64 id, .int .i64 n, bv] 28)) := (Env.refl w).alloc _
  have N0 := Lib.hid n0
  have hwz := hw.le L
  have HWZ := Lib.hid hwz
  obtain ⟨v1, w1, m1, hrun1, n1, h1, l1, o1⟩ := run_app_z HM.out bv bs hwz hbl
  have bw1 : BW m' (fun _ => False) m1 v1 bs := ⟨fun b o hb _ => l1 b o hb, o1.1, fun b hb => .inr (o1.2 b hb)⟩
  obtain ⟨v2, w2, m2, hrun2, n2, h2, bw2, _⟩ := bw1.app (fun _ h => h.elim) (fun _ h => h.elim) 77 26 w1 h1 (by omega)
  obtain ⟨F, hF⟩ : ∃ F, g.abs.withA id () (writeF (id - 1).toNat bs) = F := ⟨_, rfl⟩
  have hF2 : r.abs.withA id () (writeF (id - 1).toNat bs) = F := by rw [h.eq]; exact hF
  have HF := Lib.hid hF
  have HF2 := Lib.hid hF2
  rw [hF]
  clear hF hF2
  have hn2 : r.n ≤ 9998 := by rw [h.n]; exact hn
  obtain ⟨ba, bc, rfl⟩ := hw.shape
  obtain ⟨va, vc, rfl, _⟩ := o1.1.lenV
  have wl2 := bw2.row.lenV
  rw [show (bs ++ [(77 : UInt8)]).length = bs.length + 1 from by simp] at wl2
  obtain ⟨ya, yc, rfl, hyc⟩ := wl2
  have c5 : w1.cell? ⟨w.heap.size, 5, none⟩ = some (.slice ba bs.length bc) := by rw [h1.cell (l1 _ _ HB.out)]; rfl
  change (Builtin.append_ #[26, 26] 26 #[.slice va bs.length vc, .slice (some ⟨w1.heap.size, 0, none⟩) 1 1]).run Tryz.prog (w1.alloc (.cells #[.int .u8 77] 5)) = _ at hrun2
  have LM := Lib.hid L
  have L2 : Hid (m'.le m2) := Lib.hid (fun b o hb => bw2.keep b o hb (fun c => c))
  have H2 := Lib.hid h2
  have N2 := Lib.hid (N0.out.trans (n1.trans n2))
  have BW2 := Lib.hid bw2
  clear hfr h' hb hm' n0 hwz o1 bw1 n1 n2 h1 h2 l1 bw2 L
  go_enter Tryz.func20, Tryz.ntmps20
  go_wp2_with (at_builtin; refine wpList_b2 rfl .append Builtin.append_ (fun _ _ _ _ => rfl) _ _ _ _ rfl rfl rfl hrun1 ?_; refine Hid.out ?_)
  refine Lib.hid ?_
  clear hrun1
  go_wp2_with (at_builtin; refine wpList_b2 rfl .append Builtin.append_ (fun _ _ _ _ => rfl) _ _ _ _ rfl rfl rfl hrun2 ?_; refine Hid.out ?_)
  refine Lib.hid ?_
  clear hrun2
  obtain ⟨yb, hyb⟩ : ∃ yb, ya = some ⟨yb, 0, none⟩ := by
    have hrow := BW2.out.row
    obtain ⟨_, ⟨h1, _⟩ | ⟨yb, _, _, _, h1, _⟩⟩ := hrow
    · simp at h1
    · simp only [Value.slice.injEq] at h1; exact ⟨yb, h1.1⟩
  subst hyb
  have hyc0 : ¬ yc = 0 := by omega
  have hlc : bs.length ≤ yc := by omega
  have hlc1 : (bs.length : Int) < (bs.length : Int) + 1 := by omega
  have YN : Hid (m' yb = none) := Lib.hid (by
    rcases BW2.out.new yb rfl with h1 | h1
    · exact h1.elim
    · exact h1)
  have hrow2 := BW2.out.row
  rw [show (bs ++ [(77 : UInt8)]).length = bs.length + 1 from by simp] at hrow2
  have ROW2 := Lib.hid hrow2
  have YP : Hid (¬ PP sb rb g r yb) := Lib.hid (fun hp => by
    obtain ⟨o, ho⟩ := HT.out.known hp
    rw [YN.out] at ho; cases ho)
  have BP : Hid (∀ mm, m'.le mm → ∀ m4 (P : Nat → Prop), Fr mm m4 (PP sb rb g r) P → WindZ m4 (.slice ba bs.length bc) bs) := Lib.hid (fun mm l m4 P fr => (HWZ.out.le l).keep fun hp b o hb hm => fr.keep b o hm (hna hp b hb))
  have CV1 := fun w0 => @WQ.conv1 (some ⟨yb, 0, none⟩) yc (.slice ba bs.length bc) bs w0
  have CV2 := fun w0 => @WQ.conv2 (.slice (some ⟨yb, 0, none⟩) (bs.length + 1) yc) (.slice ba bs.length bc) bs w0
  have CV3 := fun w0 h0 => (@WQ.last yb yc (.slice ba bs.length bc) bs w0 h0).1
  have CV4 := fun w0 h0 => (@WQ.last yb yc (.slice ba bs.length bc) bs w0 h0).2
  have HNA := Lib.hid hna
  have HG := Lib.hid (hG'.le L2.out)
  have H0 := Lib.hid h0
  clear hrow2 hna hw hG hG' h0 hkn hm
  go_wp2_with fail
  refine wp_region_K 37 (fun w' => w'.cell? ⟨w.heap.size, 3, none⟩ = some (.int .i64 id) ∧ w'.cell? ⟨w.heap.size, 5, none⟩ = some (.slice ba bs.length bc) ∧ WQ (.slice (some ⟨yb, 0, none⟩) (bs.length + 1) yc) (.slice ba bs.length bc) bs w') (by kernel_rfl) ?_
  have hS : (fun w' : World => w'.cell? ⟨w.heap.size, 3, none⟩ = some (.int .i64 id) ∧ w'.cell? ⟨w.heap.size, 5, none⟩ = some (.slice ba bs.length bc) ∧ WQ (.slice (some ⟨yb, 0, none⟩) (bs.length + 1) yc) (.slice ba bs.length bc) bs w') w2.drew := by
    refine ⟨?_, ?_, m2, H2.out.drew, HWZ.out.le L2.out, ROW2.out⟩ <;> (rw [H2.out.drew.cell (L2.out _ _ HB.out)]; rfl)
  refine wpAnyK_take (i := 0) (v := ?_) rfl (by kernel_rfl) (by kernel_rfl) (by kernel_rfl) (by kernel_rfl) (fun _ _ _ h => h) (Or.inl ⟨by rfl, ?_⟩) hS ?_
  rotate_left
  · intro w0 hS0; obtain ⟨q0, q1, q2⟩ := hS0; go_simp; try with_reducible rfl
  simp only [Act.put, List.setIfInBounds_toArray, List.set_cons_zero, List.set_cons_succ, List.getElem_toArray, List.getElem_cons_succ, List.getElem_cons_zero]
  refine wpAnyK_take (i := 1) (v := ?_) rfl (by kernel_rfl) (by kernel_rfl) (by kernel_rfl) (by kernel_rfl) (fun _ _ _ h => h) (Or.inl ⟨by rfl, ?_⟩) hS ?_
  rotate_left
  · intro w0 hS0; obtain ⟨q0, q1, q2⟩ := hS0; go_simp; try with_reducible rfl
  simp only [Act.put, List.setIfInBounds_toArray, List.set_cons_zero, List.set_cons_succ, List.getElem_toArray, List.getElem_cons_succ, List.getElem_cons_zero]
  refine wpAnyK_take (i := 2) (v := ?_) rfl (by kernel_rfl) (by kernel_rfl) (by kernel_rfl) (by kernel_rfl) (fun _ _ _ h => h) (Or.inl ⟨by rfl, ?_⟩) hS ?_
  rotate_left
  · intro w0 hS0; obtain ⟨q0, q1, q2⟩ := hS0; go_simp; try with_reducible rfl
  simp only [Act.put, List.setIfInBounds_toArray, List.set_cons_zero, List.set_cons_succ, List.getElem_toArray, List.getElem_cons_succ, List.getElem_cons_zero]
  refine wpAnyK_take (i := 3) (v := ?_) rfl (by kernel_rfl) (by kernel_rfl) (by kernel_rfl) (by kernel_rfl) (fun _ _ _ h => h) (Or.inl ⟨by rfl, ?_⟩) hS ?_
  rotate_left
  · intro w0 hS0; obtain ⟨q0, q1, q2⟩ := hS0; go_simp; try with_reducible rfl
  simp only [Act.put, List.setIfInBounds_toArray, List.set_cons_zero, List.set_cons_succ, List.getElem_toArray, List.getElem_cons_succ, List.getElem_cons_zero]
  refine wpAnyK_take (i := 4) (v := ?_) rfl (by kernel_rfl) (by kernel_rfl) (by kernel_rfl) (by kernel_rfl) (fun _ _ _ h => h) (Or.inl ⟨by rfl, ?_⟩) hS ?_
  rotate_left
  · intro w0 hS0; obtain ⟨q0, q1, q2⟩ := hS0; go_simp; try with_reducible rfl
  simp only [Act.put, List.setIfInBounds_toArray, List.set_cons_zero, List.set_cons_succ, List.getElem_toArray, List.getElem_cons_succ, List.getElem_cons_zero]
  refine wpAnyK_take (i := 5) (v := ?_) rfl (by kernel_rfl) (by kernel_rfl) (by kernel_rfl) (by kernel_rfl) (fun _ _ _ h => h) (Or.inl ⟨by rfl, ?_⟩) hS ?_
  rotate_left
  · intro w0 hS0; obtain ⟨q0, q1, q2⟩ := hS0; go_simp; try with_reducible rfl
  simp only [Act.put, List.setIfInBounds_toArray, List.set_cons_zero, List.set_cons_succ, List.getElem_toArray, List.getElem_cons_succ, List.getElem_cons_zero]
  refine wpAnyK_take (i := 6) (v := ?_) rfl (by kernel_rfl) (by kernel_rfl) (by kernel_rfl) (by kernel_rfl) (fun _ _ _ h => h) (Or.inl ⟨by rfl, ?_⟩) hS ?_
  rotate_left
  · intro w0 hS0; obtain ⟨q0, q1, q2⟩ := hS0; go_simp; try with_reducible rfl
  simp only [Act.put, List.setIfInBounds_toArray, List.set_cons_zero, List.set_cons_succ, List.getElem_toArray, List.getElem_cons_succ, List.getElem_cons_zero]
  refine wpAnyK_take (i := 7) (v := ?_) rfl (by kernel_rfl) (by kernel_rfl) (by kernel_rfl) (by kernel_rfl) (fun _ _ _ h => h) (Or.inl ⟨by rfl, ?_⟩) hS ?_
  rotate_left
  · intro w0 hS0; obtain ⟨q0, q1, q2⟩ := hS0; go_simp; try with_reducible rfl
  simp only [Act.put, List.setIfInBounds_toArray, List.set_cons_zero, List.set_cons_succ, List.getElem_toArray, List.getElem_cons_succ, List.getElem_cons_zero]
  refine wpAnyK_take (i := 9) (v := ?_) rfl (by kernel_rfl) (by kernel_rfl) (by kernel_rfl) (by kernel_rfl) (fun _ _ _ h => h) (Or.inl ⟨by rfl, ?_⟩) hS ?_
  rotate_left
  · intro w0 hS0; obtain ⟨q0, q1, q2⟩ := hS0; go_simp; try with_reducible rfl
  simp only [Act.put, List.setIfInBounds_toArray, List.set_cons_zero, List.set_cons_succ, List.getElem_toArray, List.getElem_cons_succ, List.getElem_cons_zero]
  refine wpAnyK_take (i := 10) (v := ?_) rfl (by kernel_rfl) (by kernel_rfl) (by kernel_rfl) (by kernel_rfl) (fun _ _ _ h => h) (Or.inl ⟨by rfl, ?_⟩) hS ?_
  rotate_left
  · intro w0 hS0; obtain ⟨q0, q1, q2⟩ := hS0; go_simp; try with_reducible rfl
  simp only [Act.put, List.setIfInBounds_toArray, List.set_cons_zero, List.set_cons_succ, List.getElem_toArray, List.getElem_cons_succ, List.getElem_cons_zero]
  refine wpAnyK_take (i := 11) (v := ?_) rfl (by kernel_rfl) (by kernel_rfl) (by kernel_rfl) (by kernel_rfl) (fun _ _ _ h => h) (Or.inl ⟨by rfl, ?_⟩) hS ?_
  rotate_left
  · intro w0 hS0; obtain ⟨q0, q1, q2⟩ := hS0; go_simp; try with_reducible rfl
  simp only [Act.put, List.setIfInBounds_toArray, List.set_cons_zero, List.set_cons_succ, List.getElem_toArray, List.getElem_cons_succ, List.getElem_cons_zero]
  refine wpAnyK_take (i := 12) (v := ?_) rfl (by kernel_rfl) (by kernel_rfl) (by kernel_rfl) (by kernel_rfl) (fun _ _ _ h => h) (Or.inl ⟨by rfl, ?_⟩) hS ?_
  rotate_left
  · intro w0 hS0; obtain ⟨q0, q1, q2⟩ := hS0; go_simp; try with_reducible rfl
  simp only [Act.put, List.setIfInBounds_toArray, List.set_cons_zero, List.set_cons_succ, List.getElem_toArray, List.getElem_cons_succ, List.getElem_cons_zero]
  refine wpAnyK_take (i := 13) (v := ?_) rfl (by kernel_rfl) (by kernel_rfl) (by kernel_rfl) (by kernel_rfl) (fun _ _ _ h => h) (Or.inl ⟨by rfl, ?_⟩) hS ?_
  rotate_left
  · intro w0 hS0; obtain ⟨q0, q1, q2⟩ := hS0; go_simp; try with_reducible rfl
  simp only [Act.put, List.setIfInBounds_toArray, List.set_cons_zero, List.set_cons_succ, List.getElem_toArray, List.getElem_cons_succ, List.getElem_cons_zero]
  clear hS
  refine wpAnyK_one (i := 8) rfl (by kernel_rfl) rfl ?_
  go_simp
  refine (write_any sb id (.slice (some ⟨yb, 0, none⟩) bs.length yc) bs g _ m2 H2.out.drew (HT.out.st.le L2.out) HG.out (fun x => H0.out (.inl x)) (by omega) (row_wind (row_cut ROW2.out)).z (fun _ b hb hp => by
    obtain rfl : yb = b := Option.some.inj hb
    exact YP.out (.inl hp)) hbl).mono ?_
  rintro e w3 ⟨x3, m3, rfl, h3, n3, o3⟩
  rw [HF.out] at o3
  obtain ⟨g1, mid0, ha, hx, _⟩ := (HT.out.le L2.out).fst o3
  have mid : Mid m' sb rb g r m3 g1 := ⟨mid0.st, mid0.rf, mid0.sep, (Fr.of_le L2.out _).trans mid0.fr⟩
  have hb3 : m3 w.heap.size = some (.cells #[.int .i64 13, .string nm, .string to, .int .i64 id, .int .i64 n, .slice ba bs.length bc] 28) := mid.fr.keep _ _ HB.out (fun hp => HKN.out _ (.inl hp) rfl)
  have fr3 : Fr m2 m3 (PP sb rb g r) (fun _ => False) := ⟨fun b o hb hp => mid0.fr.keep b o hb (fun hq => hp (.inl hq)), fun b hb => hb.elim⟩
  have row3 : Row m3 (.slice (some ⟨yb, 0, none⟩) (bs.length + 1) yc) 5 1 (bs.length + 1) ((bs ++ [77]).map byteV) := ROW2.out.keep fun b o hb hm => mid0.fr.keep b o hm (fun hp => by
    obtain rfl : yb = b := Option.some.inj hb
    exact YP.out (.inl hp))
  have wz3 : WindZ m3 (.slice ba bs.length bc) bs := BP.out m2 L2.out m3 _ fr3
  have S3 : w3.cell? ⟨w.heap.size, 3, none⟩ = some (.int .i64 id) ∧ w3.cell? ⟨w.heap.size, 5, none⟩ = some (.slice ba bs.length bc) ∧ WQ (.slice (some ⟨yb, 0, none⟩) (bs.length + 1) yc) (.slice ba bs.length bc) bs w3 := by
    refine ⟨?_, ?_, m3, h3, wz3, row3⟩ <;> (rw [h3.cell hb3]; rfl)
  have H3 := Lib.hid h3
  have N3 := Lib.hid (N2.out.drew.trans n3)
  have MID := Lib.hid mid
  have HA := Lib.hid ha
  have FR03 := Lib.hid mid0.fr
  have ROW3 := Lib.hid row3
  have WZ3 := Lib.hid wz3
  obtain ⟨a1, x, u⟩ := F
  simp only at ha hx
  subst hx
  clear h3 n3 o3 mid mid0 ha hb3 fr3 row3 wz3
  refine ⟨S3, ?_⟩
  clear S3
  refine wpAnyK_one (i := 14) rfl (by kernel_rfl) rfl ?_
  go_simp
  refine (write_ref rb id (.slice ba bs.length bc) bs r w3 m3 H3.out MID.out.rf hn2 WZ3.out (fun hp b hb hq => HNA.out hp b hb (.inr hq)) hbl).mono ?_
  rintro e w4 ⟨x4, m4, rfl, h4, n4, o4⟩
  rw [HF2.out] at o4
  obtain ⟨r2, t2, fr, hz, _, fr2⟩ := MID.out.snd o4 HA.out
  simp only at hz
  subst hz
  have hb4 : m4 w.heap.size = some (.cells #[.int .i64 13, .string nm, .string to, .int .i64 id, .int .i64 n, .slice ba bs.length bc] 28) := fr.keep _ _ HB.out (fun hp => HKN.out _ hp rfl)
  have row4 : Row m4 (.slice (some ⟨yb, 0, none⟩) (bs.length + 1) yc) 5 1 (bs.length + 1) ((bs ++ [77]).map byteV) := ROW3.out.keep fun b o hb hm => fr2.keep b o hm (fun hp => by
    obtain rfl : yb = b := Option.some.inj hb
    exact YP.out (.inr hp))
  have wz4 : WindZ m4 (.slice ba bs.length bc) bs := BP.out m' (Mem.le_refl _) m4 _ fr
  have S4 : (fun w' : World => w'.cell? ⟨w.heap.size, 3, none⟩ = some (.int .i64 id) ∧ w'.cell? ⟨w.heap.size, 5, none⟩ = some (.slice ba bs.length bc) ∧ WQ (.slice (some ⟨yb, 0, none⟩) (bs.length + 1) yc) (.slice ba bs.length bc) bs w') w4 := by
    refine ⟨?_, ?_, m4, h4, wz4, row4⟩ <;> (rw [h4.cell hb4]; rfl)
  have YP4 : Hid (¬ PP sb rb g1 r2 yb) := Lib.hid (fun hp => by
    obtain ⟨_, _, hc2⟩ := ROW2.out.ty (b := yb) rfl
    obtain ⟨_, _, hc3⟩ := ROW3.out.ty (b := yb) rfl
    rcases hp with hp | hp
    · rcases FR03.out.new yb hp with h1 | h1
      · exact YP.out (.inl h1)
      · rw [hc2] at h1; cases h1
    · rcases fr2.new yb hp with h1 | h1
      · exact YP.out (.inr h1)
      · rw [hc3] at h1; cases h1)
  have WR : Hid (WrR w m sb rb g r a1 g1 r2 yb yc (bs.length + 1) w4) := Lib.hid ⟨m4, _, h4, N3.out.trans n4, t2, HA.out, FR0.out.trans fr, YP4.out, Mem.none_le LM.out YN.out, row4⟩
  refine ⟨S4, ?_⟩
  have hS := S4
  clear h4 n4 o4 t2 fr fr2 hb4 row4 wz4 S4
  refine wpAnyK_take (i := 15) (v := ?_) rfl (by kernel_rfl) (by kernel_rfl) (by kernel_rfl) (by kernel_rfl) (fun _ _ _ h => h) (Or.inl ⟨by rfl, ?_⟩) hS ?_
  rotate_left
  · intro w0 hS0; obtain ⟨q0, q1, q2⟩ := hS0; go_simp; try with_reducible rfl
  simp only [Act.put, List.setIfInBounds_toArray, List.set_cons_zero, List.set_cons_succ, List.getElem_toArray, List.getElem_cons_succ, List.getElem_cons_zero]
  refine wpAnyK_take (i := 16) (v := ?_) rfl (by kernel_rfl) (by kernel_rfl) (by kernel_rfl) (by kernel_rfl) (fun _ _ _ h => h) (Or.inl ⟨by rfl, ?_⟩) hS ?_
  rotate_left
  · intro w0 hS0; obtain ⟨q0, q1, q2⟩ := hS0; go_simp; try with_reducible rfl
  simp only [Act.put, List.setIfInBounds_toArray, List.set_cons_zero, List.set_cons_succ, List.getElem_toArray, List.getElem_cons_succ, List.getElem_cons_zero]
  refine wpAnyK_take (i := 17) (v := ?_) rfl (by kernel_rfl) (by kernel_rfl) (by kernel_rfl) (by kernel_rfl) (fun _ _ _ h => h) (Or.inl ⟨by rfl, ?_⟩) hS ?_
  rotate_left
  · intro w0 hS0; obtain ⟨q0, q1, q2⟩ := hS0; go_simp; try with_reducible rfl
  simp only [Act.put, List.setIfInBounds_toArray, List.set_cons_zero, List.set_cons_succ, List.getElem_toArray, List.getElem_cons_succ, List.getElem_cons_zero]
  refine wpAnyK_take (i := 18) (v := ?_) rfl (by kernel_rfl) (by kernel_rfl) (by kernel_rfl) (by kernel_rfl) (fun _ _ _ h => h) (Or.inl ⟨by rfl, ?_⟩) hS ?_
  rotate_left
  · intro w0 hS0; obtain ⟨q0, q1, q2⟩ := hS0; go_simp; try with_reducible rfl
  simp only [Act.put, List.setIfInBounds_toArray, List.set_cons_zero, List.set_cons_succ, List.getElem_toArray, List.getElem_cons_succ, List.getElem_cons_zero]
  refine wpAnyK_take (i := 19) (v := ?_) rfl (by kernel_rfl) (by kernel_rfl) (by kernel_rfl) (by kernel_rfl) (fun _ _ _ h => h) (Or.inl ⟨by rfl, ?_⟩) hS ?_
  rotate_left
  · intro w0 hS0; obtain ⟨q0, q1, q2⟩ := hS0; go_simp; try with_reducible rfl
  simp only [Act.put, List.setIfInBounds_toArray, List.set_cons_zero, List.set_cons_succ, List.getElem_toArray, List.getElem_cons_succ, List.getElem_cons_zero]
  refine wpAnyK_take (i := 20) (v := ?_) rfl (by kernel_rfl) (by kernel_rfl) (by kernel_rfl) (by kernel_rfl) (fun _ _ _ h => h) (Or.inl ⟨by rfl, ?_⟩) hS ?_
  rotate_left
  · intro w0 hS0; obtain ⟨q0, q1, q2⟩ := hS0; go_simp; try with_reducible rfl
  simp only [Act.put, List.setIfInBounds_toArray, List.set_cons_zero, List.set_cons_succ, List.getElem_toArray, List.getElem_cons_succ, List.getElem_cons_zero]
  refine wpAnyK_take (i := 21) (v := ?_) rfl (by kernel_rfl) (by kernel_rfl) (by kernel_rfl) (by kernel_rfl) (fun _ _ _ h => h) (Or.inl ⟨by rfl, ?_⟩) hS ?_
  rotate_left
  · intro w0 hS0; obtain ⟨q0, q1, q2⟩ := hS0; go_simp; try with_reducible rfl
  simp only [Act.put, List.setIfInBounds_toArray, List.set_cons_zero, List.set_cons_succ, List.getElem_toArray, List.getElem_cons_succ, List.getElem_cons_zero]
  refine wpAnyK_take (i := 22) (v := ?_) rfl (by kernel_rfl) (by kernel_rfl) (by kernel_rfl) (by kernel_rfl) (fun _ _ _ h => h) (Or.inl ⟨by rfl, ?_⟩) hS ?_
  rotate_left
  · intro w0 hS0; obtain ⟨q0, q1, q2⟩ := hS0; go_simp; try with_reducible rfl
  simp only [Act.put, List.setIfInBounds_toArray, List.set_cons_zero, List.set_cons_succ, List.getElem_toArray, List.getElem_cons_succ, List.getElem_cons_zero]
  refine wpAnyK_take (i := 23) (v := ?_) rfl (by kernel_rfl) (by kernel_rfl) (by kernel_rfl) (by kernel_rfl) (fun _ _ _ h => h) (Or.inl ⟨by rfl, ?_⟩) hS ?_
  rotate_left
  · intro w0 hS0; obtain ⟨q0, q1, q2⟩ := hS0; go_simp; try with_reducible rfl
  simp only [Act.put, List.setIfInBounds_toArray, List.set_cons_zero, List.set_cons_succ, List.getElem_toArray, List.getElem_cons_succ, List.getElem_cons_zero]
  refine wpAnyK_take (i := 24) (v := ?_) rfl (by kernel_rfl) (by kernel_rfl) (by kernel_rfl) (by kernel_rfl) (fun _ _ _ h => h) (Or.inl ⟨by rfl, ?_⟩) hS ?_
  rotate_left
  · intro w0 hS0; obtain ⟨q0, q1, q2⟩ := hS0; go_simp; try with_reducible rfl
  simp only [Act.put, List.setIfInBounds_toArray, List.set_cons_zero, List.set_cons_succ, List.getElem_toArray, List.getElem_cons_succ, List.getElem_cons_zero]
  refine wpAnyK_take (i := 25) (v := ?_) rfl (by kernel_rfl) (by kernel_rfl) (by kernel_rfl) (by kernel_rfl) (fun _ _ _ h => h) (Or.inl ⟨by rfl, ?_⟩) hS ?_
  rotate_left
  · intro w0 hS0; obtain ⟨q0, q1, q2⟩ := hS0; go_simp; try with_reducible rfl
  simp only [Act.put, List.setIfInBounds_toArray, List.set_cons_zero, List.set_cons_succ, List.getElem_toArray, List.getElem_cons_succ, List.getElem_cons_zero]
  refine wpAnyK_take (i := 26) (v := ?_) rfl (by kernel_rfl) (by kernel_rfl) (by kernel_rfl) (by kernel_rfl) (fun _ _ _ h => h) (Or.inl ⟨by rfl, ?_⟩) hS ?_
  rotate_left
  · intro w0 hS0; obtain ⟨q0, q1, q2⟩ := hS0; go_simp; try with_reducible rfl
  simp only [Act.put, List.setIfInBounds_toArray, List.set_cons_zero, List.set_cons_succ, List.getElem_toArray, List.getElem_cons_succ, List.getElem_cons_zero]
  refine wpAnyK_take (i := 27) (v := ?_) rfl (by kernel_rfl) (by kernel_rfl) (by kernel_rfl) (by kernel_rfl) (fun _ _ _ h => h) (Or.inl ⟨by rfl, ?_⟩) hS ?_
  rotate_left
  · intro w0 hS0; obtain ⟨q0, q1, q2⟩ := hS0; go_simp; try with_reducible rfl
  simp only [Act.put, List.setIfInBounds_toArray, List.set_cons_zero, List.set_cons_succ, List.getElem_toArray, List.getElem_cons_succ, List.getElem_cons_zero]
  refine wpAnyK_take (i := 28) (v := ?_) rfl (by kernel_rfl) (by kernel_rfl) (by kernel_rfl) (by kernel_rfl) (fun _ _ _ h => h) (Or.inl ⟨by rfl, ?_⟩) hS ?_
  rotate_left
  · intro w0 hS0; obtain ⟨q0, q1, q2⟩ := hS0; go_simp; try with_reducible rfl
  simp only [Act.put, List.setIfInBounds_toArray, List.set_cons_zero, List.set_cons_succ, List.getElem_toArray, List.getElem_cons_succ, List.getElem_cons_zero]
  refine wpAnyK_take (i := 29) (v := ?_) rfl (by kernel_rfl) (by kernel_rfl) (by kernel_rfl) (by kernel_rfl) (fun _ _ _ h => h) (Or.inl ⟨by rfl, ?_⟩) hS ?_
  rotate_left
  · intro w0 hS0; obtain ⟨q0, q1, q2⟩ := hS0; go_simp; try with_reducible rfl
  simp only [Act.put, List.setIfInBounds_toArray, List.set_cons_zero, List.set_cons_succ, List.getElem_toArray, List.getElem_cons_succ, List.getElem_cons_zero]
  refine wpAnyK_take (i := 30) (v := ?_) rfl (by kernel_rfl) (by kernel_rfl) (by kernel_rfl) (by kernel_rfl) (fun _ _ _ h => h) (Or.inl ⟨by rfl, ?_⟩) hS ?_
  rotate_left
  · intro w0 hS0; obtain ⟨q0, q1, q2⟩ := hS0; go_simp; try with_reducible rfl
  simp only [Act.put, List.setIfInBounds_toArray, List.set_cons_zero, List.set_cons_succ, List.getElem_toArray, List.getElem_cons_succ, List.getElem_cons_zero]
  refine wpAnyK_take (i := 31) (v := ?_) rfl (by kernel_rfl) (by kernel_rfl) (by kernel_rfl) (by kernel_rfl) (fun _ _ _ h => h) (Or.inl ⟨by rfl, ?_⟩) hS ?_
  rotate_left
  · intro w0 hS0; obtain ⟨q0, q1, q2⟩ := hS0; go_simp; try with_reducible rfl
  simp only [Act.put, List.setIfInBounds_toArray, List.set_cons_zero, List.set_cons_succ, List.getElem_toArray, List.getElem_cons_succ, List.getElem_cons_zero]
  refine wpAnyK_take (i := 32) (v := ?_) rfl (by kernel_rfl) (by kernel_rfl) (by kernel_rfl) (by kernel_rfl) (fun _ _ _ h => h) (Or.inl ⟨by rfl, ?_⟩) hS ?_
  rotate_left
  · intro w0 hS0; obtain ⟨q0, q1, q2⟩ := hS0; go_simp; try with_reducible rfl
  simp only [Act.put, List.setIfInBounds_toArray, List.set_cons_zero, List.set_cons_succ, List.getElem_toArray, List.getElem_cons_succ, List.getElem_cons_zero]
  refine wpAnyK_take (i := 33) (v := ?_) rfl (by kernel_rfl) (by kernel_rfl) (by kernel_rfl) (by kernel_rfl) (fun _ _ _ h => h) (Or.inl ⟨by rfl, ?_⟩) hS ?_
  rotate_left
  · intro w0 hS0; obtain ⟨q0, q1, q2⟩ := hS0; go_simp; try with_reducible rfl
  simp only [Act.put, List.setIfInBounds_toArray, List.set_cons_zero, List.set_cons_succ, List.getElem_toArray, List.getElem_cons_succ, List.getElem_cons_zero]
  refine wpAnyK_take (i := 34) (v := ?_) rfl (by kernel_rfl) (by kernel_rfl) (by kernel_rfl) (by kernel_rfl) (fun _ _ _ h => h) (Or.inl ⟨by rfl, ?_⟩) hS ?_
  rotate_left
  · intro w0 hS0; obtain ⟨q0, q1, q2⟩ := hS0; go_simp; try with_reducible rfl
  simp only [Act.put, List.setIfInBounds_toArray, List.set_cons_zero, List.set_cons_succ, List.getElem_toArray, List.getElem_cons_succ, List.getElem_cons_zero]
  refine wpAnyK_take (i := 35) (v := ?_) rfl (by kernel_rfl) (by kernel_rfl) (by kernel_rfl) (by kernel_rfl) (fun _ _ _ h => h) (Or.inl ⟨by rfl, ?_⟩) hS ?_
  rotate_left
  · intro w0 hS0; obtain ⟨q0, q1, q2⟩ := hS0; go_simp; try with_reducible rfl
  simp only [Act.put, List.setIfInBounds_toArray, List.set_cons_zero, List.set_cons_succ, List.getElem_toArray, List.getElem_cons_succ, List.getElem_cons_zero]
  refine wpAnyK_take (i := 36) (v := ?_) rfl (by kernel_rfl) (by kernel_rfl) (by kernel_rfl) (by kernel_rfl) (fun _ _ _ h => h) (Or.inl ⟨by rfl, ?_⟩) hS ?_
  rotate_left
  · intro w0 hS0; obtain ⟨q0, q1, q2⟩ := hS0; go_simp; try with_reducible rfl
  simp only [Act.put, List.setIfInBounds_toArray, List.set_cons_zero, List.set_cons_succ, List.getElem_toArray, List.getElem_cons_succ, List.getElem_cons_zero]
  clear hS CV1 CV2 CV3 CV4
  refine wpAnyK_one (i := 37) rfl (by kernel_rfl) rfl ?_
  go_simp
  refine wpAnyK_done (by kernel_rfl) ?_ _
  go_wp2_with fail
  go_loopw [39] (fun i' wr => ∃ i : Nat, i ≤ bs.length + 1 ∧ i' = .int .i64 i ∧ Hid (WrR w m sb rb g r a1 g1 r2 yb yc (bs.length + 1) wr)) (fun i' _ => bs.length + 1 - (intOf i').toNat)
  case atStart => exact ⟨0, Nat.zero_le _, rfl, WR⟩
  case round =>
    obtain ⟨i, hi, rfl, HX⟩ := hrel
    by_cases hlt : i < bs.length + 1
    · obtain ⟨glt, ec, ez, STEP⟩ := HX.out.step hlt
      obtain ⟨v0, ec⟩ := ec
      have STEP := Lib.hid STEP
      clear HX WR
      go_wp2_with fail
      go_roundw
      case rel => exact ⟨i + 1, hlt, by go_num, STEP⟩
      case measure => simp [intOf]; omega
    · clear WR
      go_wp2_with fail
      go_ret
      exact HX.out.done
end Go.Proofs.YtcdmdkgiabfbeaaGreatDoor

/-
  A call on both stores is answered alike: whatever the kind (printed by does_gen.py)
-/
namespace Go.Proofs.YtcdmdkgiabfbeaaGreatDoor
open Go.RowKit

/-- What a call leaves. -/
def stepA (a : A) (s : Stp) : A :=
  if s.kind = 1 then (a.createF s.name s.n).1 else
  if s.kind = 2 then (a.openF s.name s.n).1 else
  if s.kind = 3 then (a.withA s.id () (closeF (s.id - 1).toNat)).1 else
  if s.kind = 4 then (a.deleteF s.name).1 else
  if s.kind = 5 then (a.renF s.name s.to).1 else
  if s.kind = 6 then (a.statusF s.name).1 else
  if s.kind = 7 then (a.withA s.id 0 sizeF).1 else
  if s.kind = 8 then (a.withA s.id 0 posF).1 else
  if s.kind = 9 then (a.withA s.id () (seekF (s.id - 1).toNat s.n)).1 else
  if s.kind = 10 then (a.withA s.id () (resizeF s.n)).1 else
  if s.kind = 11 then (a.withA s.id [] (readF (s.id - 1).toNat s.n)).1 else
  if s.kind = 12 then (a.withA s.id ([], false) (lineF (s.id - 1).toNat s.n)).1 else
  if s.kind = 13 then (a.withA s.id () (writeF (s.id - 1).toNat s.b)).1 else
  if s.kind = 14 then (a.withA s.id () flushF).1 else
  a

set_option maxHeartbeats 4000000 in
set_option maxRecDepth 100000 in
theorem does_else (sb rb : Nat) (kd : Int) (nm to : ByteArray) (id n : Int) (bv : Value) (g : G) (r : RG) (w : World) (m : Mem) (hm : Has w m) (h : Two m sb rb g r)
    (h1 : ¬ kd = 1) (h2 : ¬ kd = 2) (h3 : ¬ kd = 3) (h4 : ¬ kd = 4) (h5 : ¬ kd = 5) (h6 : ¬ kd = 6) (h7 : ¬ kd = 7) (h8 : ¬ kd = 8) (h9 : ¬ kd = 9) (h10 : ¬ kd = 10) (h11 : ¬ kd = 11) (h12 : ¬ kd = 12) (h13 : ¬ kd = 13) (h14 : ¬ kd = 14) :
    Calls Tryz.prog 20 #[.pointer (some ⟨sb, 0, none⟩), .pointer (some ⟨rb, 0, none⟩), .agg #[.int .i64 kd, .string nm, .string to, .int .i64 id, .int .i64 n, bv]] w (DoesR w m sb rb g r g.abs) := by
  have hfr := hm.fresh (Nat.le_refl w.heap.size)
  have L := Mem.le_set m (.cells #[.int .i64 kd, .string nm, .string to, .int .i64 id, .int .i64 n, bv] 28) hfr
  have R := Lib.hid (show DoesR w m sb rb g r g.abs (.returned (.bool true)) (w.alloc (.cells #[.int .i64 kd, .string nm, .string to, .int .i64 id, .int .i64 n, bv] 28)) from ⟨_, g, r, rfl, hm.alloc _, (Env.refl w).alloc _, h.le L, rfl, Fr.of_le L _⟩)
  have b1 : (kd == 1) = false := by simpa using h1
  have b2 : (kd == 2) = false := by simpa using h2
  have b3 : (kd == 3) = false := by simpa using h3
  have b4 : (kd == 4) = false := by simpa using h4
  have b5 : (kd == 5) = false := by simpa using h5
  have b6 : (kd == 6) = false := by simpa using h6
  have b7 : (kd == 7) = false := by simpa using h7
  have b8 : (kd == 8) = false := by simpa using h8
  have b9 : (kd == 9) = false := by simpa using h9
  have b10 : (kd == 10) = false := by simpa using h10
  have b11 : (kd == 11) = false := by simpa using h11
  have b12 : (kd == 12) = false := by simpa using h12
  have b13 : (kd == 13) = false := by simpa using h13
  have b14 : (kd == 14) = false := by simpa using h14
  clear hm h hfr L h1 h2 h3 h4 h5 h6 h7 h8 h9 h10 h11 h12 h13 h14
  go_enter Tryz.func20, Tryz.ntmps20
  go_wp2_with fail
  go_ret
  exact R.out

/-- does. -/
theorem does_any (sb rb : Nat) (s : Stp) (g : G) (r : RG) (w : World) (m : Mem) (hm : Has w m) (h : Two m sb rb g r) (hG : GlobOk m) (h0 : ¬ PP sb rb g r 0) (hn : g.n ≤ 9998)
    (hw : WindZ m s.bv s.b) (hna : 0 < s.b.length → ∀ b, s.bv.ownBlk = some b → ¬ PP sb rb g r b) (hbl : s.b.length ≤ 1000000) :
    Calls Tryz.prog 20 #[.pointer (some ⟨sb, 0, none⟩), .pointer (some ⟨rb, 0, none⟩), .agg (stpCells s).toArray] w (DoesR w m sb rb g r (stepA g.abs s)) := by
  obtain ⟨kd, nm, to, id, n, bv, bs⟩ := s
  unfold stepA stpCells
  dsimp only at *
  by_cases h1 : kd = 1
  · subst h1
    rw [if_pos rfl]
    exact does_create sb rb nm to id n bv bs g r w m hm h hG h0 hn
  rw [if_neg h1]
  by_cases h2 : kd = 2
  · subst h2
    rw [if_pos rfl]
    exact does_open sb rb nm to id n bv bs g r w m hm h hG h0 hn
  rw [if_neg h2]
  by_cases h3 : kd = 3
  · subst h3
    rw [if_pos rfl]
    exact does_close sb rb nm to id n bv bs g r w m hm h hG h0 hn
  rw [if_neg h3]
  by_cases h4 : kd = 4
  · subst h4
    rw [if_pos rfl]
    exact does_delete sb rb nm to id n bv bs g r w m hm h hG h0 hn
  rw [if_neg h4]
  by_cases h5 : kd = 5
  · subst h5
    rw [if_pos rfl]
    exact does_rename sb rb nm to id n bv bs g r w m hm h hG h0 hn
  rw [if_neg h5]
  by_cases h6 : kd = 6
  · subst h6
    rw [if_pos rfl]
    exact does_status sb rb nm to id n bv bs g r w m hm h hG h0 hn
  rw [if_neg h6]
  by_cases h7 : kd = 7
  · subst h7
    rw [if_pos rfl]
    exact does_size sb rb nm to id n bv bs g r w m hm h hG h0 hn
  rw [if_neg h7]
  by_cases h8 : kd = 8
  · subst h8
    rw [if_pos rfl]
    exact does_position sb rb nm to id n bv bs g r w m hm h hG h0 hn
  rw [if_neg h8]
  by_cases h9 : kd = 9
  · subst h9
    rw [if_pos rfl]
    exact does_seek sb rb nm to id n bv bs g r w m hm h hG h0 hn
  rw [if_neg h9]
  by_cases h10 : kd = 10
  · subst h10
    rw [if_pos rfl]
    exact does_resize sb rb nm to id n bv bs g r w m hm h hG h0 hn
  rw [if_neg h10]
  by_cases h11 : kd = 11
  · subst h11
    rw [if_pos rfl]
    exact does_read sb rb nm to id n bv bs g r w m hm h hG h0 hn
  rw [if_neg h11]
  by_cases h12 : kd = 12
  · subst h12
    rw [if_pos rfl]
    exact does_line sb rb nm to id n bv bs g r w m hm h hG h0 hn
  rw [if_neg h12]
  by_cases h13 : kd = 13
  · subst h13
    rw [if_pos rfl]
    exact does_write sb rb nm to id n bv bs g r w m hm h hG h0 hn hw hna hbl
  rw [if_neg h13]
  by_cases h14 : kd = 14
  · subst h14
    rw [if_pos rfl]
    exact does_flush sb rb nm to id n bv bs g r w m hm h hG h0 hn
  rw [if_neg h14]
  exact does_else sb rb kd nm to id n bv g r w m hm h h1 h2 h3 h4 h5 h6 h7 h8 h9 h10 h11 h12 h13 h14
end Go.Proofs.YtcdmdkgiabfbeaaGreatDoor

/-
  A call counts, and does what its turn's failure lets it; nothing else of the fails is asked.
-/
namespace Go.Proofs.YtcdmdkgiabfbeaaGreatDoor
open Go.RowKit

/-- Alike but for the fails and the count. -/
structure Like (a b : A) : Prop where
  look : a.look = b.look
  count : a.count = b.count
  hnd : a.hnd = b.hnd

theorem Like.swap {a b : A} (h : Like a b) : b = { a with fails := b.fails, n := b.n } := by
  obtain ⟨h1, h2, h3⟩ := h
  cases a; cases b
  simp only at h1 h2 h3
  subst h1 h2 h3
  rfl

/-- What an operation keeps. -/
def Okp (a : A) (F : A) : Prop := F.n = a.n + 1 ∧ F.fails = a.fails
theorem withA_okp {β : Type} (a : A) (id : Int) (d : β) (f : A → H3 → Fail3 → A × Int × β) (hf : ∀ t h fl, (f t h fl).1.n = t.n ∧ (f t h fl).1.fails = t.fails) : Okp a (A.withA a id d f).1 := by
  unfold A.withA
  split
  · exact ⟨rfl, rfl⟩
  · split
    · exact ⟨rfl, rfl⟩
    · exact hf _ _ _
theorem stepA_okp (a : A) (s : Stp) (h1 : 1 ≤ s.kind) (h2 : s.kind ≤ 14) : Okp a (stepA a s) := by
  unfold stepA
  by_cases k1 : s.kind = 1
  · rw [if_pos k1]
    unfold A.createF; split <;> exact ⟨rfl, rfl⟩
  rw [if_neg k1]
  by_cases k2 : s.kind = 2
  · rw [if_pos k2]
    unfold A.openF; split <;> exact ⟨rfl, rfl⟩
  rw [if_neg k2]
  by_cases k3 : s.kind = 3
  · rw [if_pos k3]
    exact withA_okp _ _ _ _ fun _ _ _ => ⟨rfl, rfl⟩
  rw [if_neg k3]
  by_cases k4 : s.kind = 4
  · rw [if_pos k4]
    unfold A.deleteF; split <;> exact ⟨rfl, rfl⟩
  rw [if_neg k4]
  by_cases k5 : s.kind = 5
  · rw [if_pos k5]
    unfold A.renF; split <;> exact ⟨rfl, rfl⟩
  rw [if_neg k5]
  by_cases k6 : s.kind = 6
  · rw [if_pos k6]
    unfold A.statusF; split <;> exact ⟨rfl, rfl⟩
  rw [if_neg k6]
  by_cases k7 : s.kind = 7
  · rw [if_pos k7]
    exact withA_okp _ _ _ _ fun _ _ _ => ⟨rfl, rfl⟩
  rw [if_neg k7]
  by_cases k8 : s.kind = 8
  · rw [if_pos k8]
    exact withA_okp _ _ _ _ fun _ _ _ => ⟨rfl, rfl⟩
  rw [if_neg k8]
  by_cases k9 : s.kind = 9
  · rw [if_pos k9]
    exact withA_okp _ _ _ _ fun _ _ _ => by unfold seekF; split <;> exact ⟨rfl, rfl⟩
  rw [if_neg k9]
  by_cases k10 : s.kind = 10
  · rw [if_pos k10]
    exact withA_okp _ _ _ _ fun _ _ _ => by unfold resizeF; split <;> exact ⟨rfl, rfl⟩
  rw [if_neg k10]
  by_cases k11 : s.kind = 11
  · rw [if_pos k11]
    exact withA_okp _ _ _ _ fun _ _ _ => by unfold readF; split <;> exact ⟨rfl, rfl⟩
  rw [if_neg k11]
  by_cases k12 : s.kind = 12
  · rw [if_pos k12]
    exact withA_okp _ _ _ _ fun _ _ _ => by unfold lineF; repeat' (first | exact ⟨rfl, rfl⟩ | split)
  rw [if_neg k12]
  by_cases k13 : s.kind = 13
  · rw [if_pos k13]
    exact withA_okp _ _ _ _ fun _ _ _ => by unfold writeF; split <;> exact ⟨rfl, rfl⟩
  rw [if_neg k13]
  by_cases k14 : s.kind = 14
  · rw [if_pos k14]
    exact withA_okp _ _ _ _ fun _ _ _ => ⟨rfl, rfl⟩
  rw [if_neg k14]
  omega
theorem stepA_same (a : A) (s : Stp) (h : ¬ (1 ≤ s.kind ∧ s.kind ≤ 14)) : stepA a s = a := by
  unfold stepA
  repeat rw [if_neg (by omega)]
theorem stepA_n (a : A) (s : Stp) : (stepA a s).n ≤ a.n + 1 := by
  by_cases h : 1 ≤ s.kind ∧ s.kind ≤ 14
  · exact Nat.le_of_eq (stepA_okp a s h.1 h.2).1
  · rw [stepA_same a s h]; omega

/-! ### the fails -/
theorem withA_fail {β : Type} {a : A} (hf : a.now.2.1 ≠ 0) (id : Int) (d : β) (f : A → H3 → Fail3 → A × Int × β) : (A.withA a id d f).1 = a.tick := by
  unfold A.withA; rw [if_pos hf]
theorem stepA_fail {a : A} {s : Stp} (hf : a.now.2.1 ≠ 0) (h1 : 1 ≤ s.kind) (h2 : s.kind ≤ 14) : stepA a s = a.tick := by
  unfold stepA
  by_cases k1 : s.kind = 1
  · rw [if_pos k1]
    have hx : a.createX s.name s.n ≠ 0 := by unfold A.createX; rw [if_pos hf]; exact hf
    unfold A.createF; rw [if_pos hx]
  rw [if_neg k1]
  by_cases k2 : s.kind = 2
  · rw [if_pos k2]
    have hx : a.openX s.name s.n ≠ 0 := by unfold A.openX; rw [if_pos hf]; exact hf
    unfold A.openF; rw [if_pos hx]
  rw [if_neg k2]
  by_cases k3 : s.kind = 3
  · rw [if_pos k3]
    exact withA_fail hf _ _ _
  rw [if_neg k3]
  by_cases k4 : s.kind = 4
  · rw [if_pos k4]
    have hx : a.deleteX s.name ≠ 0 := by unfold A.deleteX; rw [if_pos hf]; exact hf
    unfold A.deleteF; rw [if_pos hx]
  rw [if_neg k4]
  by_cases k5 : s.kind = 5
  · rw [if_pos k5]
    have hx : a.renX s.name s.to ≠ 0 := by unfold A.renX; rw [if_pos hf]; exact hf
    unfold A.renF; rw [if_pos hx]
  rw [if_neg k5]
  by_cases k6 : s.kind = 6
  · rw [if_pos k6]
    have hx : a.statusX s.name ≠ 0 := by unfold A.statusX; rw [if_pos hf]; exact hf
    unfold A.statusF; rw [if_pos hx]
  rw [if_neg k6]
  by_cases k7 : s.kind = 7
  · rw [if_pos k7]
    exact withA_fail hf _ _ _
  rw [if_neg k7]
  by_cases k8 : s.kind = 8
  · rw [if_pos k8]
    exact withA_fail hf _ _ _
  rw [if_neg k8]
  by_cases k9 : s.kind = 9
  · rw [if_pos k9]
    exact withA_fail hf _ _ _
  rw [if_neg k9]
  by_cases k10 : s.kind = 10
  · rw [if_pos k10]
    exact withA_fail hf _ _ _
  rw [if_neg k10]
  by_cases k11 : s.kind = 11
  · rw [if_pos k11]
    exact withA_fail hf _ _ _
  rw [if_neg k11]
  by_cases k12 : s.kind = 12
  · rw [if_pos k12]
    exact withA_fail hf _ _ _
  rw [if_neg k12]
  by_cases k13 : s.kind = 13
  · rw [if_pos k13]
    exact withA_fail hf _ _ _
  rw [if_neg k13]
  by_cases k14 : s.kind = 14
  · rw [if_pos k14]
    exact withA_fail hf _ _ _
  rw [if_neg k14]
  omega

theorem Like.refl (a : A) : Like a a := ⟨rfl, rfl, rfl⟩
theorem withA_like {β : Type} {a b : A} (h : Like a b) (hn : a.now = b.now) (id : Int) (d : β) (f : A → H3 → Fail3 → A × Int × β) (hf : ∀ t t' h fl, Like t t' → Like (f t h fl).1 (f t' h fl).1) :
    Like (A.withA a id d f).1 (A.withA b id d f).1 := by
  have hg : b.got id = a.got id := by unfold A.got; rw [h.hnd]
  have ht : Like a.tick b.tick := ⟨h.look, h.count, h.hnd⟩
  unfold A.withA
  rw [← hn, hg]
  split
  · exact ht
  · split
    · exact ht
    · exact hf _ _ _ _ ht
theorem Like.bytes {a b : A} (h : Like a b) (s : ByteArray) : a.bytes s = b.bytes s := by unfold A.bytes; rw [h.look]
theorem Like.setH {a b : A} (h : Like a b) (i : Nat) (x : Option H3) : Like (a.setH i x) (b.setH i x) := ⟨h.look, h.count, by unfold A.setH; rw [h.hnd]⟩
theorem Like.setF {a b : A} (h : Like a b) (s : ByteArray) (x : List UInt8) : Like (a.setF s x) (b.setF s x) := ⟨by unfold A.setF; rw [h.look], h.count, h.hnd⟩
theorem Like.make {a b : A} (h : Like a b) (s : ByteArray) : Like (a.make s) (b.make s) := ⟨by unfold A.make; rw [h.look], by unfold A.make; rw [h.look, h.count], h.hnd⟩
theorem Like.drop {a b : A} (h : Like a b) (s : ByteArray) : Like (a.drop s) (b.drop s) := ⟨by unfold A.drop; rw [h.look], by unfold A.drop; rw [h.count], h.hnd⟩
theorem Like.ren {a b : A} (h : Like a b) (s t : ByteArray) : Like (a.ren s t) (b.ren s t) := ⟨by unfold A.ren; rw [h.look], h.count, h.hnd⟩
theorem Like.tick {a b : A} (h : Like a b) : Like a.tick b.tick := ⟨h.look, h.count, h.hnd⟩
theorem Like.free {a b : A} (h : Like a b) : a.free = b.free := by unfold A.free; rw [h.hnd]
theorem Like.used {a b : A} (h : Like a b) (s : ByteArray) : a.used s = b.used s := by unfold A.used; rw [h.hnd]
theorem Like.readL {a b : A} (h : Like a b) (x : H3) (n : Int) (fl : Fail3) : readL a x n fl = readL b x n fl := by unfold Proofs.YtcdmdkgiabfbeaaGreatDoor.readL; rw [h.bytes]

theorem stepA_like {a b : A} (h : Like a b) (hn : a.now = b.now) (s : Stp) : Like (stepA a s) (stepA b s) := by
  unfold stepA
  by_cases k1 : s.kind = 1
  · rw [if_pos k1, if_pos k1]
    have hx : a.createX s.name s.n = b.createX s.name s.n := by unfold A.createX A.fullC; rw [hn, h.look, h.count, h.free]
    unfold A.createF
    rw [hx, h.free]
    split
    · exact h.tick
    · exact (h.tick.make _).setH _ _
  rw [if_neg k1, if_neg k1]
  by_cases k2 : s.kind = 2
  · rw [if_pos k2, if_pos k2]
    have hx : a.openX s.name s.n = b.openX s.name s.n := by unfold A.openX; rw [hn, h.look, h.free]
    unfold A.openF
    rw [hx, h.free]
    split
    · exact h.tick
    · exact h.tick.setH _ _
  rw [if_neg k2, if_neg k2]
  by_cases k3 : s.kind = 3
  · rw [if_pos k3, if_pos k3]
    exact withA_like h hn _ _ _ fun t t' x fl ht => ht.setH _ _
  rw [if_neg k3, if_neg k3]
  by_cases k4 : s.kind = 4
  · rw [if_pos k4, if_pos k4]
    have hx : a.deleteX s.name = b.deleteX s.name := by unfold A.deleteX; rw [hn, h.look, h.used]
    unfold A.deleteF
    rw [hx]
    split
    · exact h.tick
    · exact h.tick.drop _
  rw [if_neg k4, if_neg k4]
  by_cases k5 : s.kind = 5
  · rw [if_pos k5, if_pos k5]
    have hx : a.renX s.name s.to = b.renX s.name s.to := by unfold A.renX; rw [hn, h.look, h.used]
    unfold A.renF
    rw [hx]
    split
    · exact h.tick
    · exact h.tick.ren _ _
  rw [if_neg k5, if_neg k5]
  by_cases k6 : s.kind = 6
  · rw [if_pos k6, if_pos k6]
    have hx : a.statusX s.name = b.statusX s.name := by unfold A.statusX; rw [hn, h.look]
    unfold A.statusF
    rw [hx]
    split <;> exact h.tick
  rw [if_neg k6, if_neg k6]
  by_cases k7 : s.kind = 7
  · rw [if_pos k7, if_pos k7]
    exact withA_like h hn _ _ _ fun t t' x fl ht => ht
  rw [if_neg k7, if_neg k7]
  by_cases k8 : s.kind = 8
  · rw [if_pos k8, if_pos k8]
    exact withA_like h hn _ _ _ fun t t' x fl ht => ht
  rw [if_neg k8, if_neg k8]
  by_cases k9 : s.kind = 9
  · rw [if_pos k9, if_pos k9]
    exact withA_like h hn _ _ _ fun t t' x fl ht => by
      unfold seekF
      rw [ht.bytes]
      split
      · exact ht
      · exact ht.setH _ _
  rw [if_neg k9, if_neg k9]
  by_cases k10 : s.kind = 10
  · rw [if_pos k10, if_pos k10]
    exact withA_like h hn _ _ _ fun t t' x fl ht => by
      unfold resizeF
      rw [ht.bytes]
      split
      · exact ht
      · exact ht.setF _ _
  rw [if_neg k10, if_neg k10]
  by_cases k11 : s.kind = 11
  · rw [if_pos k11, if_pos k11]
    exact withA_like h hn _ _ _ fun t t' x fl ht => by
      unfold readF
      rw [ht.readL]
      split
      · exact ht
      · exact ht.setH _ _
  rw [if_neg k11, if_neg k11]
  by_cases k12 : s.kind = 12
  · rw [if_pos k12, if_pos k12]
    exact withA_like h hn _ _ _ fun t t' x fl ht => by
      unfold lineF
      rw [ht.readL, ht.bytes]
      split
      · exact ht
      · split
        · exact ht
        · split
          · exact ht.setH _ _
          · exact ht.setH _ _
  rw [if_neg k12, if_neg k12]
  by_cases k13 : s.kind = 13
  · rw [if_pos k13, if_pos k13]
    exact withA_like h hn _ _ _ fun t t' x fl ht => by
      unfold writeF
      rw [ht.bytes]
      split
      · exact ht
      · exact (ht.setF _ _).setH _ _
  rw [if_neg k13, if_neg k13]
  by_cases k14 : s.kind = 14
  · rw [if_pos k14, if_pos k14]
    exact withA_like h hn _ _ _ fun t t' x fl ht => ht
  rw [if_neg k14, if_neg k14]
  exact h
end Go.Proofs.YtcdmdkgiabfbeaaGreatDoor

/-
  A region that draws its order: what holds of the world may be another from some operation on; an operation that is guarded.
-/
namespace Go.Proofs.YtcdmdkgiabfbeaaGreatDoor
open Go.RowKit

section
variable {P : Program} {ops : Array Oper} {Q : Exit → Act → World → Prop} {md : Region.Mode} {S S' : World → Prop}

theorem wpAnyK_swap {k k' : Nat} (hk : k ≤ k') (hS : ∀ w, S' w → S w) : ∀ (fuel : Nat) (listed : Array Bool) (a : Act) (w : World), wpAnyK P md ops Q S' k' fuel listed a w → wpAnyK P md ops Q S k fuel listed a w
  | 0, _, _, _, h => h
  | fuel + 1, _, _, _, h => ⟨h.1, fun i hi => wpOp_mono (fun a' w' h' => ⟨fun hi => hS _ (h'.1 (by omega)), wpAnyK_swap hk hS fuel _ a' w' h'.2⟩) (h.2 i hi)⟩

theorem wpAnyK_oneW {i k : Nat} {oi : Oper} {fuel : Nat} {listed : Array Bool} {a : Act} {w : World} (hi : ops[i]? = some oi) (hr : Region.ready md ops listed = [i]) (hg : Region.wanted oi (yielded ops a.tmps) = true)
    (h : oi.wp P a w (fun a' w' => (i < k → S w') ∧ wpAnyK P md ops Q S k fuel (listed.setIfInBounds i true) a' w') Q) : wpAnyK P md ops Q S k (fuel + 1) listed a w := by
  refine ⟨fun h0 => (by rw [hr] at h0; cases h0), fun j hj => ?_⟩
  rw [hr] at hj
  obtain rfl := List.mem_singleton.1 hj
  unfold wpOp
  simp only [hi, hg, if_true]
  exact .inl h
end
end Go.Proofs.YtcdmdkgiabfbeaaGreatDoor

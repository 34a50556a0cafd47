/-
  The functions on one file and one open file: not, size, left, and the copy of bytes.
-/
import Derived.Test.YtcdmdkgiabfbeaaDoorAdd
import Derived.Test.YtcdmdkgiabfbeaaDoorDrawn
import Derived.Deep.RegionHeld3
namespace Go.Proofs.YtcdmdkgiabfbeaaDoor
open Go.RowKit

/-- An open file's mode asked. -/
theorem not_any (ob fb : Nat) (mode pos q : Int) (w : World) (m : Mem) (hm : Has w m)
    (ho : m ob = some (.cells #[.pointer (some ⟨fb, 0, none⟩), .int .i64 mode, .int .i64 pos] 80 (0, 0))) :
    Calls Tryd.prog 33 #[.pointer (some ⟨ob, 0, none⟩), .int .i64 q] w (Post w m fun v m' => ErrIs m' v (if mode = q then -20 else 0)) := by
  have c1 : w.cell? ⟨ob, 1, none⟩ = some (.int .i64 mode) := by rw [hm.cell ho]; rfl
  have H := Lib.hid hm
  clear hm ho
  by_cases h : mode = q
  · have hb : (mode == q) = true := by simpa using h
    have HM := Lib.hid h
    clear h
    rw [if_pos HM.out]
    go_enter Tryd.func33, Tryd.ntmps33
    go_wp2_with fail
    refine (refuse_any (-20) _ _ H.out (by decide)).mono ?_
    rintro e w2 ⟨v, m2, rfl, l2, h2, n2, hv⟩
    have L2 := Lib.hid l2
    have H2 := Lib.hid h2
    have N2 := Lib.hid n2
    have HV := Lib.hid hv
    clear l2 h2 n2 hv
    go_wp2_with fail
    go_ret
    exact Post.mk _ L2.out H2.out N2.out HV.out
  · have hb : (mode == q) = false := by simpa using h
    have HM := Lib.hid h
    clear h
    rw [if_neg HM.out]
    go_enter Tryd.func33, Tryd.ntmps33
    go_wp2_with fail
    go_ret
    exact Post.mk _ (Mem.le_refl _) H.out (Env.refl _) (.inl ⟨rfl, rfl⟩)

/-- A file that is given so many bytes. -/
def resz (bs : List UInt8) (k : Nat) : List UInt8 := bs.take k ++ List.replicate (k - bs.length) 0
theorem resz_length (bs : List UInt8) (k : Nat) : (resz bs k).length = k := by simp [resz]; omega

theorem infoB : (Tryd.prog.info? 5).map (fun i => (i.zero, i.size, i.bytes)) = some (some (.int .u8 0), 1, 1) := by kernel_rfl

set_option maxHeartbeats 1000000 in
theorem size_any (fb : Nat) (bv : Value) (bs : List UInt8) (k : Nat) (w : World) (m : Mem) (hm : Has w m) (hf : m fb = some (.cells #[bv] 62 (0, 0)))
    (hr : Row m bv 5 1 bs.length (bs.map byteV)) (hk : k ≤ 262144) (hb : bs.length ≤ 262144) :
    Calls Tryd.prog 41 #[.pointer (some ⟨fb, 0, none⟩), .int .i64 k] w fun e w' => ∃ bv' m1, e = .returned (.tuple #[]) ∧ Grows m m1 bv bv' ∧
      Has w' (m1.set fb (.cells #[bv'] 62 (0, 0))) ∧ Env w w' ∧ Row (m1.set fb (.cells #[bv'] 62 (0, 0))) bv' 5 1 k ((resz bs k).map byteV) := by
  have c0 : w.cell? ⟨fb, 0, none⟩ = some bv := by rw [hm.cell hf]; rfl
  have f0 : w.frozen? ⟨fb, 0, none⟩ = false := hm.froz hf
  obtain ⟨ba, bc, hbv, hbc⟩ := hr.lenV
  have hno : bv.ownBlock ≠ some fb := fun e => by obtain ⟨cur, fz, hc⟩ := hr.ty e; rw [hf] at hc; simp at hc
  have H := Lib.hid hm
  have HF := Lib.hid hf
  have HR := Lib.hid hr
  have HNO := Lib.hid hno
  clear hm hf hr hno
  by_cases hle : k ≤ bs.length
  · subst hbv
    have HRB := HR.out
    rcases HRB.2 with ⟨h1, h2⟩ | ⟨gb, cap, cur, fz, h1, hg, hth, hnc, hcm, hcs, htk⟩
    · simp only [Value.slice.injEq] at h1
      obtain ⟨rfl, _, rfl⟩ := h1
      have hk0 : k = 0 := by omega
      subst hk0
      clear HRB
      have hl : bs = [] := List.eq_nil_of_length_eq_zero h2
      subst hl
      simp only [List.length_nil] at *
      go_enter Tryd.func41, Tryd.ntmps41
      go_wp2_with fail
      refine bodyPost_ret (results_none rfl _ _ _) rfl ?_
      refine ⟨_, m, rfl, .inl ⟨rfl, rfl⟩, H.out.storeTo HF.out _ rfl, (Env.refl w).setCell _ _, ?_⟩
      exact Row.nil _ _ _
    · simp only [Value.slice.injEq] at h1
      obtain ⟨rfl, _, rfl⟩ := h1
      have HG := Lib.hid hg
      have HTH := Lib.hid hth
      have HTK := Lib.hid htk
      clear HRB hg hth htk
      go_enter Tryd.func41, Tryd.ntmps41
      go_wp2_with fail
      refine bodyPost_ret (results_none rfl _ _ _) rfl ?_
      have hgf : gb ≠ fb := fun e => HNO.out (by rw [e]; rfl)
      have hsz : resz bs k = bs.take k := by unfold resz; rw [show k - bs.length = 0 from by omega]; simp
      refine ⟨.slice (some ⟨gb, 0, none⟩) k k, m, ?_, .inl ⟨rfl, rfl⟩, H.out.storeTo HF.out _ (by simp), (Env.refl w).setCell _ _, ?_⟩
      · rfl
      · rw [hsz]
        refine ⟨by simp; omega, .inr ⟨gb, k, cur, fz, rfl, by rw [Mem.set_ne _ _ hgf]; exact HG.out, HTH.out, Nat.le_refl _, by omega, by omega, ?_⟩⟩
        have := congrArg (List.take k) HTK.out
        rw [List.take_take] at this
        rw [Nat.mul_one] at this ⊢
        rw [Nat.min_eq_left hle] at this
        rw [this, List.map_take]
  · obtain ⟨j, hj⟩ : ∃ j, k = bs.length + j := ⟨k - bs.length, by omega⟩
    have hj0 : 0 < j := by omega
    obtain ⟨i0, hi, hz0, hz1, hz2⟩ := info_parts infoB
    obtain ⟨v', w2, m2, hrun, he2, hh2, hrow2, hgr2⟩ := run_append_zeros (P := Tryd.prog) 33 3 33 5 i0 (.int .u8 0) Tryd.underlying33 Tryd.underlying3 hi hz0 hz1 hz2 rfl rfl (H.out.drewN 1) bv bs.length (bs.map byteV) HR.out j hj0 (by omega)
    obtain ⟨va, vc, rfl, _⟩ := hrow2.lenV
    have hf2 : m2 fb = some (.cells #[bv] 62 (0, 0)) := hgr2.keep HF.out HNO.out
    have d0 : w2.cell? ⟨fb, 0, none⟩ = some bv := by rw [hh2.cell hf2]; rfl
    have d1 : w2.frozen? ⟨fb, 0, none⟩ = false := hh2.froz hf2
    have hjw : IntKind.i64.wrap ((k : Int) - (bs.length : Int)) = (j : Int) := by
      rw [hj]; simp [IntKind.wrap, IntKind.signed, IntKind.bits]; omega
    have HE2 := Lib.hid he2
    have HH2 := Lib.hid hh2
    have HROW := Lib.hid hrow2
    have HGR := Lib.hid hgr2
    have HF2 := Lib.hid hf2
    have HJ := Lib.hid hj
    subst hbv
    clear he2 hh2 hrow2 hgr2 hf2 hi hz0 hz1 hz2 hj
    go_enter Tryd.func41, Tryd.ntmps41
    go_wp2_with fail
    refine wp_region_K 15 (fun w' => w'.cell? ⟨fb, 0, none⟩ = some (.slice ba bs.length bc)) (by kernel_rfl) ?_
    have hS : (fun w' : World => w'.cell? ⟨fb, 0, none⟩ = some (.slice ba bs.length bc)) w.drew := c0
    refine wpAnyK_take (i := 0) (v := ?_) rfl (by kernel_rfl) (by kernel_rfl) (by kernel_rfl) (by kernel_rfl) (fun _ _ _ h => h) (Or.inl ⟨by rfl, ?_⟩) hS ?_
    rotate_left
    · intro w0 hS0; (try dsimp only at hS0); go_simp; try with_reducible rfl
    simp only [Act.put, List.setIfInBounds_toArray, List.set_cons_zero, List.set_cons_succ, List.getElem_toArray, List.getElem_cons_succ, List.getElem_cons_zero]
    refine wpAnyK_take (i := 1) (v := ?_) rfl (by kernel_rfl) (by kernel_rfl) (by kernel_rfl) (by kernel_rfl) (fun _ _ _ h => h) (Or.inl ⟨by rfl, ?_⟩) hS ?_
    rotate_left
    · intro w0 hS0; (try dsimp only at hS0); go_simp; try with_reducible rfl
    simp only [Act.put, List.setIfInBounds_toArray, List.set_cons_zero, List.set_cons_succ, List.getElem_toArray, List.getElem_cons_succ, List.getElem_cons_zero]
    refine wpAnyK_take (i := 2) (v := ?_) rfl (by kernel_rfl) (by kernel_rfl) (by kernel_rfl) (by kernel_rfl) (fun _ _ _ h => h) (Or.inl ⟨by rfl, ?_⟩) hS ?_
    rotate_left
    · intro w0 hS0; (try dsimp only at hS0); go_simp; try with_reducible rfl
    simp only [Act.put, List.setIfInBounds_toArray, List.set_cons_zero, List.set_cons_succ, List.getElem_toArray, List.getElem_cons_succ, List.getElem_cons_zero]
    refine wpAnyK_take (i := 3) (v := ?_) rfl (by kernel_rfl) (by kernel_rfl) (by kernel_rfl) (by kernel_rfl) (fun _ _ _ h => h) (Or.inl ⟨by rfl, ?_⟩) hS ?_
    rotate_left
    · intro w0 hS0; (try dsimp only at hS0); go_simp; try with_reducible rfl
    simp only [Act.put, List.setIfInBounds_toArray, List.set_cons_zero, List.set_cons_succ, List.getElem_toArray, List.getElem_cons_succ, List.getElem_cons_zero]
    refine wpAnyK_take (i := 4) (v := ?_) rfl (by kernel_rfl) (by kernel_rfl) (by kernel_rfl) (by kernel_rfl) (fun _ _ _ h => h) (Or.inl ⟨by rfl, ?_⟩) hS ?_
    rotate_left
    · intro w0 hS0; (try dsimp only at hS0); go_simp; try with_reducible rfl
    simp only [Act.put, List.setIfInBounds_toArray, List.set_cons_zero, List.set_cons_succ, List.getElem_toArray, List.getElem_cons_succ, List.getElem_cons_zero]
    refine wpAnyK_take (i := 5) (v := ?_) rfl (by kernel_rfl) (by kernel_rfl) (by kernel_rfl) (by kernel_rfl) (fun _ _ _ h => h) (Or.inl ⟨by rfl, ?_⟩) hS ?_
    rotate_left
    · intro w0 hS0; (try dsimp only at hS0); go_simp; try with_reducible rfl
    simp only [Act.put, List.setIfInBounds_toArray, List.set_cons_zero, List.set_cons_succ, List.getElem_toArray, List.getElem_cons_succ, List.getElem_cons_zero]
    refine wpAnyK_take (i := 6) (v := ?_) rfl (by kernel_rfl) (by kernel_rfl) (by kernel_rfl) (by kernel_rfl) (fun _ _ _ h => h) (Or.inl ⟨by rfl, ?_⟩) hS ?_
    rotate_left
    · intro w0 hS0; (try dsimp only at hS0); go_simp; try with_reducible rfl
    simp only [Act.put, List.setIfInBounds_toArray, List.set_cons_zero, List.set_cons_succ, List.getElem_toArray, List.getElem_cons_succ, List.getElem_cons_zero]
    refine wpAnyK_take (i := 7) (v := ?_) rfl (by kernel_rfl) (by kernel_rfl) (by kernel_rfl) (by kernel_rfl) (fun _ _ _ h => h) (Or.inl ⟨by rfl, ?_⟩) hS ?_
    rotate_left
    · intro w0 hS0; (try dsimp only at hS0); go_simp; try with_reducible rfl
    simp only [Act.put, List.setIfInBounds_toArray, List.set_cons_zero, List.set_cons_succ, List.getElem_toArray, List.getElem_cons_succ, List.getElem_cons_zero]
    refine wpAnyK_take (i := 8) (v := ?_) rfl (by kernel_rfl) (by kernel_rfl) (by kernel_rfl) (by kernel_rfl) (fun _ _ _ h => h) (Or.inl ⟨by rfl, ?_⟩) hS ?_
    rotate_left
    · intro w0 hS0; (try dsimp only at hS0); go_simp; try with_reducible rfl
    simp only [Act.put, List.setIfInBounds_toArray, List.set_cons_zero, List.set_cons_succ, List.getElem_toArray, List.getElem_cons_succ, List.getElem_cons_zero]
    refine wpAnyK_take (i := 9) (v := ?_) rfl (by kernel_rfl) (by kernel_rfl) (by kernel_rfl) (by kernel_rfl) (fun _ _ _ h => h) (Or.inl ⟨by rfl, ?_⟩) hS ?_
    rotate_left
    · intro w0 hS0; (try dsimp only at hS0); go_simp; try with_reducible rfl
    simp only [Act.put, List.setIfInBounds_toArray, List.set_cons_zero, List.set_cons_succ, List.getElem_toArray, List.getElem_cons_succ, List.getElem_cons_zero]
    refine wpAnyK_take (i := 10) (v := ?_) rfl (by kernel_rfl) (by kernel_rfl) (by kernel_rfl) (by kernel_rfl) (fun _ _ _ h => h) (Or.inl ⟨by rfl, ?_⟩) hS ?_
    rotate_left
    · intro w0 hS0; (try dsimp only at hS0); go_simp; try with_reducible rfl
    simp only [Act.put, List.setIfInBounds_toArray, List.set_cons_zero, List.set_cons_succ, List.getElem_toArray, List.getElem_cons_succ, List.getElem_cons_zero]
    refine wpAnyK_take (i := 11) (v := ?_) rfl (by kernel_rfl) (by kernel_rfl) (by kernel_rfl) (by kernel_rfl) (fun _ _ _ h => h) (Or.inl ⟨by rfl, ?_⟩) hS ?_
    rotate_left
    · intro w0 hS0; (try dsimp only at hS0); go_simp; try with_reducible rfl
    simp only [Act.put, List.setIfInBounds_toArray, List.set_cons_zero, List.set_cons_succ, List.getElem_toArray, List.getElem_cons_succ, List.getElem_cons_zero]
    refine wpAnyK_one (i := 12) rfl (by kernel_rfl) rfl ?_
    refine wp_b2 .append Builtin.append_ (fun _ _ _ _ => rfl) (.tmp 25) (.tmp 32) 33 3 rfl rfl rfl hrun ?_
    refine ⟨fun _ => d0, ?_⟩
    clear hS
    have hS : (fun w' : World => w'.cell? ⟨fb, 0, none⟩ = some (.slice ba bs.length bc)) w2 := d0
    simp only [Act.put, List.setIfInBounds_toArray, List.set_cons_zero, List.set_cons_succ, List.getElem_toArray, List.getElem_cons_succ, List.getElem_cons_zero]
    refine wpAnyK_take (i := 13) (v := ?_) rfl (by kernel_rfl) (by kernel_rfl) (by kernel_rfl) (by kernel_rfl) (fun _ _ _ h => h) (Or.inl ⟨by rfl, ?_⟩) hS ?_
    rotate_left
    · intro w0 hS0; (try dsimp only at hS0); go_simp; try with_reducible rfl
    simp only [Act.put, List.setIfInBounds_toArray, List.set_cons_zero, List.set_cons_succ, List.getElem_toArray, List.getElem_cons_succ, List.getElem_cons_zero]
    refine wpAnyK_take (i := 14) (v := ?_) rfl (by kernel_rfl) (by kernel_rfl) (by kernel_rfl) (by kernel_rfl) (fun _ _ _ h => h) (Or.inl ⟨by rfl, ?_⟩) hS ?_
    rotate_left
    · intro w0 hS0; (try dsimp only at hS0); go_simp; try with_reducible rfl
    simp only [Act.put, List.setIfInBounds_toArray, List.set_cons_zero, List.set_cons_succ, List.getElem_toArray, List.getElem_cons_succ, List.getElem_cons_zero]
    refine wpAnyK_one (i := 15) rfl (by kernel_rfl) rfl ?_
    go_simp
    refine wpAnyK_done (by kernel_rfl) ?_ _
    go_wp2_with fail
    go_end0
    have hj := HJ.out
    subst hj
    have hsz : resz bs (bs.length + j) = bs ++ List.replicate j 0 := by unfold resz; rw [List.take_of_length_le (by omega), show bs.length + j - bs.length = j from by omega]
    refine ⟨rfl, _, m2, HGR.out, HH2.out.storeTo HF2.out _ rfl, ((Env.refl w).drew.trans HE2.out).setCell _ _, ?_⟩
    have hvs : (Value.slice va (bs.length + j) vc).ownBlock ≠ some fb := fun e => by
      obtain ⟨cur, fz, hc⟩ := HROW.out.ty e; rw [HF2.out] at hc; simp at hc
    have := HROW.out.set_other (.cells #[.slice va (bs.length + j) vc] 62 (0, 0)) hvs
    rw [hsz, List.map_append, List.map_replicate]
    exact this
end Go.Proofs.YtcdmdkgiabfbeaaDoor

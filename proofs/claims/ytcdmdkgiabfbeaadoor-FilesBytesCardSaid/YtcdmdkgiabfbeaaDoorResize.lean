/-
  Resize.
-/
import Derived.Test.YtcdmdkgiabfbeaaDoorWrite
namespace Go.Proofs.YtcdmdkgiabfbeaaDoor
open Go.RowKit

def resizeX (h : H3) (n : Int) : Int := if h.2.1 = 1 then -20 else if n < 0 then -36 else if 262144 < n then -8 else 0
def resizeF (n : Int) (t : A) (h : H3) (_ : Fail3) : A × Int × Unit :=
  if resizeX h n ≠ 0 then (t, resizeX h n, ()) else (t.setF h.1 (resz (t.bytes h.1) n.toNat), 0, ())

set_option maxHeartbeats 1000000 in
theorem resize11_any (p : Nat) (n : Int) (w : World) (m : Mem) (hm : Has w m) (hp : BoxI m p n) :
    Calls Tryd.prog 39 #[.pointer (some ⟨p, 0, none⟩)] w (Post w m fun v _ => v = .bool (decide (n < 0))) := by
  have c0 : w.cell? ⟨p, 0, none⟩ = some (.int .i64 n) := by rw [hm.cell hp]; rfl
  have H := Lib.hid hm
  clear hm hp
  go_enter Tryd.func39, Tryd.ntmps39
  go_wp2_with fail
  go_ret
  exact Post.mk m (Mem.le_refl _) H.out (Env.refl w) rfl
set_option maxHeartbeats 1000000 in
theorem resize12_any (p : Nat) (n : Int) (w : World) (m : Mem) (hm : Has w m) (hp : BoxI m p n) :
    Calls Tryd.prog 40 #[.pointer (some ⟨p, 0, none⟩)] w (Post w m fun v _ => v = .bool (decide (262144 < n))) := by
  have c0 : w.cell? ⟨p, 0, none⟩ = some (.int .i64 n) := by rw [hm.cell hp]; rfl
  have H := Lib.hid hm
  clear hm hp
  go_enter Tryd.func40, Tryd.ntmps40
  go_wp2_with fail
  go_ret
  exact Post.mk m (Mem.le_refl _) H.out (Env.refl w) rfl
theorem enters_resize11 : Enters 39 := fun _ _ => by kernel_rfl
theorem enters_resize12 : Enters 40 := fun _ _ => by kernel_rfl
theorem enters_resize1 : Enters 38 := fun _ _ => by kernel_rfl

theorem firstOf_resize (c d : Value) (h : H3) (n : Int) : firstOf (if h.2.1 = 1 then -20 else 0) [(c, -36, decide (n < 0)), (d, -8, decide (262144 < n))] = resizeX h n := by
  unfold resizeX firstOf firstOf firstOf
  by_cases h1 : h.2.1 = 1
  · simp [h1]
  · by_cases h2 : n < 0
    · simp [h1, h2]
    · by_cases h3 : 262144 < n
      · simp [h1, h2, h3]
      · simp [h1, h2, h3]

set_option maxHeartbeats 8000000 in
theorem resize1_any (sb k p : Nat) (g : G) (h : Hnd) (n : Int) (fl : Fail3) (w : World) (m : Mem) (hm : Has w m) (hr : SRep m sb g) (hk : g.O[k]? = some (some h)) (hp : BoxI m p n) :
    Calls Tryd.prog 38 #[.pointer (some ⟨h.ob, 0, none⟩), failV fl, .pointer (some ⟨p, 0, none⟩)] w
      (DoR w m sb g (fun _ => False) (resizeF n g.abs h.abs fl) (fun _ _ => True)) := by
  obtain ⟨e, he, hfb, hname, hlook⟩ := hr.fileOf hk
  have hob := hr.hnd h (List.mem_of_getElem? hk)
  have hrow := hr.row e he
  have hfile := hr.file e he
  rw [hfb] at hfile
  have hbs : g.abs.bytes h.name = e.bs := by unfold A.bytes; rw [hlook]; rfl
  have hsz := hr.bsz e he
  obtain ⟨f0, f1, fs⟩ := fl
  have hfr := hm.fresh (Nat.le_refl w.heap.size)
  have h1 := hm.alloc (.cells #[.int .i64 f0, .int .i64 f1, .int .i64 fs] 54)
  have l1 := Mem.le_set m (.cells #[.int .i64 f0, .int .i64 f1, .int .i64 fs] 54) hfr
  have HBS := Lib.hid hbs
  have HROW := Lib.hid hrow
  have HFILE := Lib.hid hfile
  have HR := Lib.hid hr
  have HK := Lib.hid hk
  have HP := Lib.hid hp
  have HOB := Lib.hid hob
  have HE := Lib.hid he
  have HFB := Lib.hid hfb
  have HNM := Lib.hid hname
  have HA := Lib.hid h1
  have LA := Lib.hid l1
  have NA := Lib.hid ((Env.refl w).alloc (.cells #[.int .i64 f0, .int .i64 f1, .int .i64 fs] 54))
  clear hm hr hob hrow hfile hbs hlook hp he hname hfb h1 l1 hfr hk
  simp only [failV]
  go_enter Tryd.func38, Tryd.ntmps38
  go_wp2_with fail
  refine (not_any h.ob h.fb h.mode h.pos 1 _ _ HA.out (LA.out _ _ HOB.out)).mono ?_
  rintro e1 w2 ⟨v, m2, rfl, l2, h2, n2, hv⟩
  have HV := Lib.hid hv
  have LL := Lib.hid (Mem.le_trans LA.out l2)
  have H2 := Lib.hid h2
  have N2 := Lib.hid (NA.out.trans n2)
  clear hv l2 h2 n2
  go_wp2_with fail
  refine (when_any (-36) _ _ (decide (n < 0)) _ _ H2.out ⟨_, _, rfl, enters_resize11, fun w1 m1 l h1 => resize11_any p n w1 m1 h1 (l _ _ (LL.out _ _ HP.out))⟩).mono ?_
  rintro e1 w3 ⟨c, m3, rfl, l3, h3, n3, hc⟩
  have LL3 := Lib.hid (Mem.le_trans LL.out l3)
  have HV3 := Lib.hid (HV.out.le l3)
  have H3 := Lib.hid h3
  have N3 := Lib.hid (N2.out.trans n3)
  obtain ⟨cp, cq, ci, hcv, _⟩ := hc.imp (fun _ h => h)
  have HC := Lib.hid hc
  clear hc l3 h3 n3
  subst hcv
  go_wp2_with fail
  refine (when_any (-8) _ _ (decide (262144 < n)) _ _ H3.out ⟨_, _, rfl, enters_resize12, fun w1 m1 l h1 => resize12_any p n w1 m1 h1 (l _ _ (LL3.out _ _ HP.out))⟩).mono ?_
  rintro e1 w3b ⟨d, m3b, rfl, l3, h3, n3, hd⟩
  have LL3 := Lib.hid (Mem.le_trans LL3.out l3)
  have HV3 := Lib.hid (HV3.out.le l3)
  have HC := Lib.hid (HC.out.le l3)
  have H3 := Lib.hid h3
  have N3 := Lib.hid (N3.out.trans n3)
  obtain ⟨dp, dq, di, hdv, _⟩ := hd.imp (fun _ h => h)
  have HD := Lib.hid hd
  clear hd l3 h3 n3
  subst hdv
  go_wp2_with fail
  have hal := H3.out.alloc (.cells #[.func (.func 54) #[] #[.pointer (some ⟨cp, 0, none⟩), .pointer (some ⟨cq, 0, none⟩)], .func (.func 54) #[] #[.pointer (some ⟨dp, 0, none⟩), .pointer (some ⟨dq, 0, none⟩)]] 70)
  have lal := Mem.le_set m3b (.cells #[.func (.func 54) #[] #[.pointer (some ⟨cp, 0, none⟩), .pointer (some ⟨cq, 0, none⟩)], .func (.func 54) #[] #[.pointer (some ⟨dp, 0, none⟩), .pointer (some ⟨dq, 0, none⟩)]] 70) (H3.out.fresh (Nat.le_refl _))
  refine (first_any v _ w3b.heap.size [(.func (.func 54) #[] #[.pointer (some ⟨cp, 0, none⟩), .pointer (some ⟨cq, 0, none⟩)], -36, decide (n < 0)), (.func (.func 54) #[] #[.pointer (some ⟨dp, 0, none⟩), .pointer (some ⟨dq, 0, none⟩)], -8, decide (262144 < n))] _ _ hal (HV3.out.le lal) (Mem.set_same _ _ _)
    (fun c hc => by
      simp only [List.mem_cons, List.not_mem_nil, or_false] at hc
      rcases hc with rfl | rfl
      · exact ⟨HC.out.le lal, show (-36 : Int) ≠ 0 by decide⟩
      · exact ⟨HD.out.le lal, show (-8 : Int) ≠ 0 by decide⟩) (by simp)).mono ?_
  rintro e1 w4 ⟨v4, m4, rfl, l4, h4, n4, hv4⟩
  have hw4 := firstOf_resize (.func (.func 54) #[] #[.pointer (some ⟨cp, 0, none⟩), .pointer (some ⟨cq, 0, none⟩)]) (.func (.func 54) #[] #[.pointer (some ⟨dp, 0, none⟩), .pointer (some ⟨dq, 0, none⟩)]) h.abs n
  change firstOf (if h.mode = 1 then -20 else 0) _ = _ at hw4
  rw [hw4] at hv4
  have HV4 := Lib.hid hv4
  have LL4 := Lib.hid (Mem.le_trans LL3.out (Mem.le_trans lal l4))
  have H4 := Lib.hid h4
  have N4 := Lib.hid (((N3.out.alloc (.cells #[.func (.func 54) #[] #[.pointer (some ⟨cp, 0, none⟩), .pointer (some ⟨cq, 0, none⟩)], .func (.func 54) #[] #[.pointer (some ⟨dp, 0, none⟩), .pointer (some ⟨dq, 0, none⟩)]] 70))).trans n4)
  clear hal lal l4 h4 n4 hv4 hw4
  by_cases hx : resizeX h.abs n = 0
  · obtain rfl : v4 = .nilIface := by
      rcases HV4.out with ⟨_, h⟩ | ⟨h, _⟩
      · exact h
      · exact absurd hx h
    obtain ⟨hn0, hn1⟩ : 0 ≤ n ∧ n ≤ 262144 := by
      unfold resizeX at hx
      change (if h.mode = 1 then (-20 : Int) else if n < 0 then -36 else if 262144 < n then -8 else 0) = 0 at hx
      by_cases h1 : h.mode = 1
      · rw [if_pos h1] at hx; omega
      · by_cases h2 : n < 0
        · rw [if_neg h1, if_pos h2] at hx; omega
        · by_cases h3 : 262144 < n
          · rw [if_neg h1, if_neg h2, if_pos h3] at hx; omega
          · omega
    obtain ⟨kk, rfl⟩ : ∃ kk : Nat, n = (kk : Int) := ⟨n.toNat, by omega⟩
    have hkl : kk ≤ 262144 := by omega
    have HX := Lib.hid hx
    have HKL := Lib.hid hkl
    have d1 : w4.cell? ⟨h.ob, 0, none⟩ = some (.pointer (some ⟨h.fb, 0, none⟩)) := by rw [H4.out.cell (LL4.out _ _ HOB.out)]; rfl
    have d4 : w4.cell? ⟨p, 0, none⟩ = some (.int .i64 kk) := by rw [H4.out.cell (LL4.out _ _ HP.out)]; rfl
    clear hx hkl
    go_wp2_with fail
    refine wp_region_K 5 (fun w' => w'.cell? ⟨h.ob, 0, none⟩ = some (.pointer (some ⟨h.fb, 0, none⟩)) ∧ w'.cell? ⟨p, 0, none⟩ = some (.int .i64 kk)) (by kernel_rfl) ?_
    have hS : (fun w' : World => w'.cell? ⟨h.ob, 0, none⟩ = some (.pointer (some ⟨h.fb, 0, none⟩)) ∧ w'.cell? ⟨p, 0, none⟩ = some (.int .i64 kk)) w4.drew := ⟨d1, d4⟩
    refine wpAnyK_take (i := 0) (v := ?_) rfl (by kernel_rfl) (by kernel_rfl) (by kernel_rfl) (by kernel_rfl) (fun _ _ _ h => h) (Or.inl ⟨by rfl, ?_⟩) hS ?_
    rotate_left
    · intro w0 hS0; obtain ⟨q0, q1⟩ := hS0; go_simp; try with_reducible rfl
    simp only [Act.put, List.setIfInBounds_toArray, List.set_cons_zero, List.set_cons_succ, List.getElem_toArray, List.getElem_cons_succ, List.getElem_cons_zero]
    refine wpAnyK_take (i := 1) (v := ?_) rfl (by kernel_rfl) (by kernel_rfl) (by kernel_rfl) (by kernel_rfl) (fun _ _ _ h => h) (Or.inl ⟨by rfl, ?_⟩) hS ?_
    rotate_left
    · intro w0 hS0; obtain ⟨q0, q1⟩ := hS0; go_simp; try with_reducible rfl
    simp only [Act.put, List.setIfInBounds_toArray, List.set_cons_zero, List.set_cons_succ, List.getElem_toArray, List.getElem_cons_succ, List.getElem_cons_zero]
    refine wpAnyK_take (i := 2) (v := ?_) rfl (by kernel_rfl) (by kernel_rfl) (by kernel_rfl) (by kernel_rfl) (fun _ _ _ h => h) (Or.inl ⟨by rfl, ?_⟩) hS ?_
    rotate_left
    · intro w0 hS0; obtain ⟨q0, q1⟩ := hS0; go_simp; try with_reducible rfl
    simp only [Act.put, List.setIfInBounds_toArray, List.set_cons_zero, List.set_cons_succ, List.getElem_toArray, List.getElem_cons_succ, List.getElem_cons_zero]
    refine wpAnyK_take (i := 3) (v := ?_) rfl (by kernel_rfl) (by kernel_rfl) (by kernel_rfl) (by kernel_rfl) (fun _ _ _ h => h) (Or.inl ⟨by rfl, ?_⟩) hS ?_
    rotate_left
    · intro w0 hS0; obtain ⟨q0, q1⟩ := hS0; go_simp; try with_reducible rfl
    simp only [Act.put, List.setIfInBounds_toArray, List.set_cons_zero, List.set_cons_succ, List.getElem_toArray, List.getElem_cons_succ, List.getElem_cons_zero]
    refine wpAnyK_take (i := 4) (v := ?_) rfl (by kernel_rfl) (by kernel_rfl) (by kernel_rfl) (by kernel_rfl) (fun _ _ _ h => h) (Or.inl ⟨by rfl, ?_⟩) hS ?_
    rotate_left
    · intro w0 hS0; obtain ⟨q0, q1⟩ := hS0; go_simp; try with_reducible rfl
    simp only [Act.put, List.setIfInBounds_toArray, List.set_cons_zero, List.set_cons_succ, List.getElem_toArray, List.getElem_cons_succ, List.getElem_cons_zero]
    refine wpAnyK_one (i := 5) rfl (by kernel_rfl) rfl ?_
    go_simp
    refine (size_any h.fb e.bv e.bs kk w4.drew m4 H4.out.drew (LL4.out _ _ HFILE.out) (HROW.out.le LL4.out) HKL.out hsz).mono ?_
    rintro e1 w5 ⟨bv', m5, rfl, gr, h5, n5, row5⟩
    clear hS d1 d4
    have r4 := HR.out.le LL4.out
    rw [← HFB.out] at h5 row5
    have R5 := Lib.hid (r4.setF HE.out bv' (resz e.bs kk) gr (by rw [resz_length]; exact row5) (by rw [resz_length]; exact HKL.out))
    have F5 := Lib.hid ((Fr.of_le LL4.out (FP sb g)).trans (SRep.setF_fr (sb := sb) HE.out bv' (resz e.bs kk) gr (.cells #[bv'] 62 (0, 0))))
    have H5 := Lib.hid h5
    have N5 := Lib.hid (N4.out.drew.trans n5)
    clear r4 h5 n5 row5 gr
    refine wpAnyK_done (by kernel_rfl) ?_ _
    go_wp2_with fail
    go_ret
    have hF : resizeF (kk : Int) g.abs h.abs (f0, f1, fs) = (g.abs.setF h.name (resz e.bs kk), 0, ()) := by
      unfold resizeF
      rw [if_neg (fun c => c HX.out)]
      show (g.abs.setF h.name (resz (g.abs.bytes h.name) _), (0 : Int), ()) = _
      rw [HBS.out]; rfl
    rw [hF]
    exact ⟨.nilIface, 0, _, rfl, H5.out, N5.out, .inl ⟨rfl, rfl⟩, _, R5.out, F5.out.more _, by rw [abs_setF HR.out HE.out, HNM.out], rfl, trivial⟩
  · obtain ⟨b4, hb4⟩ : ∃ b, v4 = .iface 98 (.pointer (some ⟨b, 0, none⟩)) := by
      rcases HV4.out with ⟨h, _⟩ | ⟨_, b, h, _⟩
      · exact absurd h hx
      · exact ⟨b, h⟩
    subst hb4
    have HX := Lib.hid hx
    clear hx
    go_wp2_with fail
    go_ret
    have hF : resizeF n g.abs h.abs (f0, f1, fs) = (g.abs, resizeX h.abs n, ()) := by unfold resizeF; rw [if_pos HX.out]
    rw [hF]
    exact ⟨_, _, m4, rfl, H4.out, N4.out, HV4.out, g, HR.out.le LL4.out, (Fr.of_le LL4.out _).mono (fun b hb => .inl (.inl hb)), rfl, rfl, trivial⟩

set_option maxHeartbeats 1000000 in
theorem resize_any (sb : Nat) (id n : Int) (g : G) (w : World) (m : Mem) (hm : Has w m) (hr : SRep m sb g) (hG : GlobOk m) (h0 : ¬ FP sb g 0) (hn : g.n ≤ 999999) :
    Calls Tryd.prog 11 #[.pointer (some ⟨sb, 0, none⟩), .int .i64 id, .int .i64 n] w
      (Ans w (OpR m sb g (fun _ => False) (A.withA g.abs id () (resizeF n)) (fun _ _ => True))) := by
  have hfr := hm.fresh (Nat.le_refl w.heap.size)
  have h1 := hm.alloc (.cells #[.int .i64 n] 3)
  have l1 := Mem.le_set m (.cells #[.int .i64 n] 3) hfr
  have hW := with_op () (resizeF n) (fun _ _ => True) (fun _ => False) sb id g 38 #[.pointer (some ⟨w.heap.size, 0, none⟩)] _ _ h1 (hr.le l1) (hG.le l1) h0 (fun h => h) hn enters_resize1
    (fun k h hk hid w1 m1 l2 hw1 hr1 => by
      have hbox : BoxI m1 w.heap.size n := l2 _ _ (by
        rw [Mem.set_ne _ _ (Mem.ne_of_none hfr hr.store)]
        exact Mem.set_same _ _ _)
      exact resize1_any sb k w.heap.size g.tick h n g.now w1 m1 hw1 hr1 hk hbox)
    (fun _ _ => trivial)
  have HW := Lib.hid hW
  have L1 := Lib.hid l1
  clear hm hr hG h1 l1 hW hfr
  go_enter Tryd.func11, Tryd.ntmps11
  go_wp2_with fail
  refine HW.out.mono ?_
  rintro e w2 ⟨x, m2, rfl, h2, n2, hx⟩
  have H2 := Lib.hid h2
  have N2 := Lib.hid n2
  have HX := Lib.hid hx
  clear h2 n2 hx
  go_wp2_with fail
  go_ret
  exact ⟨x, m2, rfl, H2.out, ((Env.refl w).alloc _).trans N2.out, HX.out.ahead L1.out (fun _ h => h.elim) (fun _ => trivial)⟩
end Go.Proofs.YtcdmdkgiabfbeaaDoor

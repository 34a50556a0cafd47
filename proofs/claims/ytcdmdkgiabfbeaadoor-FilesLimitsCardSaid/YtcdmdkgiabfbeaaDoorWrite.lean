/-
  Write.
-/
import Derived.Test.YtcdmdkgiabfbeaaDoorCopy
import Derived.Test.YtcdmdkgiabfbeaaDoorOp
import Derived.Test.YtcdmdkgiabfbeaaDoorFirst
import Derived.Test.YtcdmdkgiabfbeaaDoorLaws
import Derived.Lib.MinMax
namespace Go.Proofs.YtcdmdkgiabfbeaaDoor
open Go.RowKit

def writeX (h : H3) (b : List UInt8) : Int := if h.2.1 = 1 then -20 else if 262144 < h.2.2 + b.length then -8 else 0
def writeF (i : Nat) (b : List UInt8) (t : A) (h : H3) (_ : Fail3) : A × Int × Unit :=
  if writeX h b ≠ 0 then (t, writeX h b, ()) else
    ((t.setF h.1 (wr (resz (t.bytes h.1) (max (t.bytes h.1).length (h.2.2 + b.length))) h.2.2 b)).setH i (some (h.1, h.2.1, h.2.2 + b.length)), 0, ())

set_option maxHeartbeats 1000000 in
theorem write11_any (p q : Nat) (h : Hnd) (ya : Option Addr) (l yc : Nat) (w : World) (m : Mem) (hm : Has w m) (hp : m p = some (.cells #[.slice ya l yc] 33 (0, 0))) (hq : m q = some (.cells #[.pointer (some ⟨h.ob, 0, none⟩)] 77 (0, 0)))
    (ho : m h.ob = some (hndObj h)) (hpos : h.pos ≤ 262144) :
    Calls Tryd.prog 45 #[.pointer (some ⟨p, 0, none⟩), .pointer (some ⟨q, 0, none⟩)] w (Post w m fun v _ => v = .bool (decide (262144 < h.pos + l))) := by
  have c0 : w.cell? ⟨p, 0, none⟩ = some (.slice ya l yc) := by rw [hm.cell hp]; rfl
  have c1 : w.cell? ⟨q, 0, none⟩ = some (.pointer (some ⟨h.ob, 0, none⟩)) := by rw [hm.cell hq]; rfl
  have c2 : w.cell? ⟨h.ob, 2, none⟩ = some (.int .i64 h.pos) := by rw [hm.cell ho]; rfl
  have H := Lib.hid hm
  clear hm hp hq ho
  go_enter Tryd.func45, Tryd.ntmps45
  go_wp2_with fail
  go_quiet (fail)
  go_wp2_with fail
  go_ret
  refine Post.mk m (Mem.le_refl _) (H.out.drewN _) ((Env.refl w).drewN _) ?_
  show Value.bool _ = Value.bool _
  congr 1
  rw [Bool.eq_iff_iff]; simp; omega

theorem enters_write11 : Enters 45 := fun _ _ => by kernel_rfl

theorem WindZ.shape {m : Mem} {y : Value} {xs : List UInt8} (h : WindZ m y xs) : ∃ ya yc, y = .slice ya xs.length yc := by
  rcases h with ⟨a, c, h1, h2⟩ | ⟨g', o', cap', h1, _⟩
  · exact ⟨a, c, by rw [h1, h2]; rfl⟩
  · exact ⟨_, _, h1⟩

theorem firstOf_write (c : Value) (h : H3) (b : List UInt8) : firstOf (if h.2.1 = 1 then -20 else 0) [(c, -8, decide (262144 < h.2.2 + b.length))] = writeX h b := by
  unfold writeX firstOf firstOf
  by_cases h1 : h.2.1 = 1
  · simp [h1]
  · by_cases h2 : 262144 < h.2.2 + b.length
    · simp [h1, h2]
    · simp [h1, h2]

theorem SRep.known {m : Mem} {sb : Nat} {g : G} (r : SRep m sb g) {b : Nat} (h : FP sb g b) : ∃ o, m b = some o := by
  rcases h with rfl | rfl | ⟨d, hd, rfl | x⟩ | x | x | ⟨h, hh, rfl⟩
  · exact ⟨_, r.store⟩
  · exact ⟨_, r.map⟩
  · exact ⟨_, r.file d hd⟩
  · obtain ⟨_, _, hc⟩ := (r.row d hd).ty x; exact ⟨_, hc⟩
  · obtain ⟨_, _, hc⟩ := Row.ty r.fails x; exact ⟨_, hc⟩
  · obtain ⟨_, _, hc⟩ := r.opens.ty x; exact ⟨_, hc⟩
  · exact ⟨_, r.hnd h hh⟩
theorem SRep.unknown {m : Mem} {sb : Nat} {g : G} (r : SRep m sb g) {b : Nat} (h : m b = none) : ¬ FP sb g b := fun hp => by
  obtain ⟨o, ho⟩ := r.known hp
  rw [h] at ho; cases ho
theorem A.setF_setF (a : A) (s : ByteArray) (x y : List UInt8) : (a.setF s x).setF s y = a.setF s y := by
  simp only [A.setF, A.mk.injEq, true_and, and_true]
  funext j; split <;> rfl
theorem Row.notTy {m : Mem} {v : Value} {e : TypeId} {k n : Nat} {xs : List Value} (h : Row m v e k n xs) {b : Nat} {c : Array Value} {e' : TypeId} {fz : Nat × Nat} (hb : m b = some (.cells c e' fz)) (he : e' ≠ e) : v.ownBlock ≠ some b := fun hv => by
  obtain ⟨cur, fz, hc⟩ := h.ty hv
  rw [hb] at hc
  simp only [Option.some.injEq, Obj.cells.injEq] at hc
  exact he hc.2.1

/-- A window stays where its block does. -/
theorem WindZ.keep {m m' : Mem} {y : Value} {xs : List UInt8} (h : WindZ m y xs) (k : 0 < xs.length → ∀ b o, y.ownBlk = some b → m b = some o → m' b = some o) : WindZ m' y xs := by
  rcases h with h | ⟨g, p, cap, h1, h2, c, e, fz, h4, h5⟩
  · exact .inl h
  · exact .inr ⟨g, p, cap, h1, h2, c, e, fz, k h2 _ _ (by rw [h1]; rfl) h4, h5⟩

set_option maxHeartbeats 8000000 in
theorem write1_any (sb k p : Nat) (g : G) (h : Hnd) (y : Value) (xs : List UInt8) (fl : Fail3) (w : World) (m : Mem) (hm : Has w m) (hr : SRep m sb g) (hk : g.O[k]? = some (some h))
    (hp : m p = some (.cells #[y] 33 (0, 0))) (hy : WindZ m y xs) (hna : 0 < xs.length → ∀ b, y.ownBlk = some b → ¬ FP sb g b) (hxl : xs.length ≤ 1000000) :
    Calls Tryd.prog 44 #[.pointer (some ⟨h.ob, 0, none⟩), failV fl, .pointer (some ⟨p, 0, none⟩)] w
      (DoR w m sb g (fun _ => False) (writeF k xs g.abs h.abs fl) (fun _ _ => True)) := by
  obtain ⟨e, he, hfb, hname, hlook⟩ := hr.fileOf hk
  have hob := hr.hnd h (List.mem_of_getElem? hk)
  have hrow := hr.row e he
  have hfile := hr.file e he
  rw [hfb] at hfile
  have hbs : g.abs.bytes h.name = e.bs := by unfold A.bytes; rw [hlook]; rfl
  have hsz := hr.bsz e he
  have hpos := hr.pos h (List.mem_of_getElem? hk)
  obtain ⟨f0, f1, fs⟩ := fl
  obtain ⟨ya, yc, rfl⟩ := hy.shape
  have hfr := hm.fresh (Nat.le_refl w.heap.size)
  have h1 := hm.alloc (.cells #[.pointer (some ⟨h.ob, 0, none⟩)] 77)
  have l1 := Mem.le_set m (.cells #[.pointer (some ⟨h.ob, 0, none⟩)] 77) hfr
  have hfr2 := h1.fresh (Nat.le_refl _)
  have h2 := h1.alloc (.cells #[.int .i64 f0, .int .i64 f1, .int .i64 fs] 54)
  have l2 := Mem.le_set _ (.cells #[.int .i64 f0, .int .i64 f1, .int .i64 fs] 54) hfr2
  have bx := l2 _ _ (Mem.set_same m w.heap.size (.cells #[.pointer (some ⟨h.ob, 0, none⟩)] 77))
  have HBS := Lib.hid hbs
  have HROW := Lib.hid hrow
  have HFILE := Lib.hid hfile
  have HR := Lib.hid hr
  have HK := Lib.hid hk
  have HP := Lib.hid hp
  have HY := Lib.hid hy
  have HNA := Lib.hid hna
  have HOB := Lib.hid hob
  have HE := Lib.hid he
  have HFB := Lib.hid hfb
  have HNM := Lib.hid hname
  have HA := Lib.hid h2
  have LA := Lib.hid (Mem.le_trans l1 l2)
  have BX := Lib.hid bx
  have HFR := Lib.hid hfr
  have NA := Lib.hid (((Env.refl w).alloc (.cells #[.pointer (some ⟨h.ob, 0, none⟩)] 77)).alloc (.cells #[.int .i64 f0, .int .i64 f1, .int .i64 fs] 54))
  have b0 : ((w.alloc (.cells #[.pointer (some ⟨h.ob, 0, none⟩)] 77)).alloc (.cells #[.int .i64 f0, .int .i64 f1, .int .i64 fs] 54)).cell? ⟨w.heap.size, 0, none⟩ = some (.pointer (some ⟨h.ob, 0, none⟩)) := by
    rw [h2.cell bx]; rfl
  clear hm hr hob hrow hfile hbs hlook hp he hname hfb h1 h2 l1 l2 hfr hfr2 hy hna bx hk
  simp only [failV]
  go_enter Tryd.func44, Tryd.ntmps44
  go_wp2_with fail
  clear b0
  generalize w.heap.size = xb at *
  refine (not_any h.ob h.fb h.mode h.pos 1 _ _ HA.out (LA.out _ _ HOB.out)).mono ?_
  rintro e1 w2 ⟨v, m2, rfl, l2, h2, n2, hv⟩
  have HV := Lib.hid hv
  have LL := Lib.hid (Mem.le_trans LA.out l2)
  have BX2 := Lib.hid (l2 _ _ BX.out)
  have H2 := Lib.hid h2
  have N2 := Lib.hid (NA.out.trans n2)
  clear hv l2 h2 n2
  go_wp2_with fail
  refine (when_any (-8) _ _ (decide (262144 < h.pos + xs.length)) _ _ H2.out ⟨_, _, rfl, enters_write11, fun w1 m1 l h1 => write11_any p xb h ya xs.length yc w1 m1 h1 (l _ _ (LL.out _ _ HP.out)) (l _ _ BX2.out) (l _ _ (LL.out _ _ HOB.out)) hpos⟩).mono ?_
  rintro e1 w3 ⟨c, m3, rfl, l3, h3, n3, hc⟩
  obtain ⟨cp, cq, ci, hcv, _⟩ := hc.imp (fun _ h => h)
  have HC := Lib.hid hc
  have LL3 := Lib.hid (Mem.le_trans LL.out l3)
  have BX3 := Lib.hid (l3 _ _ BX2.out)
  have HV3 := Lib.hid (HV.out.le l3)
  have H3 := Lib.hid h3
  have N3 := Lib.hid (N2.out.trans n3)
  clear hc l3 h3 n3
  subst hcv
  go_wp2_with fail
  have hal := H3.out.alloc (.cells #[.func (.func 54) #[] #[.pointer (some ⟨cp, 0, none⟩), .pointer (some ⟨cq, 0, none⟩)]] 70)
  have lal := Mem.le_set m3 (.cells #[.func (.func 54) #[] #[.pointer (some ⟨cp, 0, none⟩), .pointer (some ⟨cq, 0, none⟩)]] 70) (H3.out.fresh (Nat.le_refl _))
  refine (first_any v _ w3.heap.size [(.func (.func 54) #[] #[.pointer (some ⟨cp, 0, none⟩), .pointer (some ⟨cq, 0, none⟩)], -8, decide (262144 < h.pos + xs.length))] _ _ hal (HV3.out.le lal) (Mem.set_same _ _ _)
    (fun c hc => by obtain rfl := List.mem_singleton.1 hc; exact ⟨HC.out.le lal, show (-8 : Int) ≠ 0 by decide⟩) (by simp)).mono ?_
  rintro e1 w4 ⟨v4, m4, rfl, l4, h4, n4, hv4⟩
  have hw4 := firstOf_write (.func (.func 54) #[] #[.pointer (some ⟨cp, 0, none⟩), .pointer (some ⟨cq, 0, none⟩)]) h.abs xs
  change firstOf (if h.mode = 1 then -20 else 0) [(_, -8, decide (262144 < h.pos + xs.length))] = _ at hw4
  rw [hw4] at hv4
  have HV4 := Lib.hid hv4
  have LL4 := Lib.hid (Mem.le_trans LL3.out (Mem.le_trans lal l4))
  have BX4 := Lib.hid (l4 _ _ (lal _ _ BX3.out))
  have H4 := Lib.hid h4
  have N4 := Lib.hid (((N3.out.alloc (.cells #[.func (.func 54) #[] #[.pointer (some ⟨cp, 0, none⟩), .pointer (some ⟨cq, 0, none⟩)]] 70))).trans n4)
  clear hal lal l4 h4 n4 hv4 hw4
  by_cases hx : writeX h.abs xs = 0
  · obtain rfl : v4 = .nilIface := by
      rcases HV4.out with ⟨_, h⟩ | ⟨h, _⟩
      · exact h
      · exact absurd hx h
    obtain ⟨hm1, hfit⟩ : h.mode ≠ 1 ∧ h.pos + xs.length ≤ 262144 := by
      unfold writeX at hx
      change (if h.mode = 1 then (-20 : Int) else if 262144 < h.pos + xs.length then -8 else 0) = 0 at hx
      by_cases h1 : h.mode = 1
      · rw [if_pos h1] at hx; omega
      · by_cases h2 : 262144 < h.pos + xs.length
        · rw [if_neg h1, if_pos h2] at hx; omega
        · exact ⟨h1, by omega⟩
    have HX := Lib.hid hx
    clear hx
    obtain ⟨ba, bc, hbv, hbc⟩ := HROW.out.lenV
    obtain ⟨q, hq⟩ : ∃ q, h.pos + xs.length = q := ⟨_, rfl⟩
    obtain ⟨kk, hkk⟩ : ∃ kk, max e.bs.length q = kk := ⟨_, rfl⟩
    have wk : IntKind.i64.wrap ((h.pos : Int) + (xs.length : Int)) = (q : Int) := by
      rw [← hq]; simp only [IntKind.wrap, IntKind.signed, IntKind.bits]; simp; omega
    have hmx : max (e.bs.length : Int) (q : Int) = (kk : Int) := by omega
    have d0 : w4.cell? ⟨xb, 0, none⟩ = some (.pointer (some ⟨h.ob, 0, none⟩)) := by rw [H4.out.cell BX4.out]; rfl
    have d1 : w4.cell? ⟨h.ob, 0, none⟩ = some (.pointer (some ⟨h.fb, 0, none⟩)) := by rw [H4.out.cell (LL4.out _ _ HOB.out)]; rfl
    have d2 : w4.cell? ⟨h.fb, 0, none⟩ = some (.slice ba e.bs.length bc) := by rw [H4.out.cell (LL4.out _ _ HFILE.out), ← hbv]; rfl
    have d3 : w4.cell? ⟨h.ob, 2, none⟩ = some (.int .i64 h.pos) := by rw [H4.out.cell (LL4.out _ _ HOB.out)]; rfl
    have d4 : w4.cell? ⟨p, 0, none⟩ = some (.slice ya xs.length yc) := by rw [H4.out.cell (LL4.out _ _ HP.out)]; rfl
    have hkl : kk ≤ 262144 := by omega
    have hqk : h.pos + xs.length ≤ kk := by omega
    have HBV := Lib.hid hbv
    have HQ := Lib.hid hq
    have HKK := Lib.hid hkk
    have HKL := Lib.hid hkl
    have HQK := Lib.hid hqk
    have HM1 := Lib.hid hm1
    have HFIT := Lib.hid hfit
    clear hbv hq hkk hkl hqk hm1 hfit
    go_wp2_with fail
    refine wp_region_K 20 (fun w' => w'.cell? ⟨xb, 0, none⟩ = some (.pointer (some ⟨h.ob, 0, none⟩)) ∧ w'.cell? ⟨h.ob, 0, none⟩ = some (.pointer (some ⟨h.fb, 0, none⟩)) ∧
      w'.cell? ⟨h.fb, 0, none⟩ = some (.slice ba e.bs.length bc) ∧ w'.cell? ⟨h.ob, 2, none⟩ = some (.int .i64 h.pos) ∧ w'.cell? ⟨p, 0, none⟩ = some (.slice ya xs.length yc)) (by kernel_rfl) ?_
    have hS : (fun w' : World => w'.cell? ⟨xb, 0, none⟩ = some (.pointer (some ⟨h.ob, 0, none⟩)) ∧ w'.cell? ⟨h.ob, 0, none⟩ = some (.pointer (some ⟨h.fb, 0, none⟩)) ∧
      w'.cell? ⟨h.fb, 0, none⟩ = some (.slice ba e.bs.length bc) ∧ w'.cell? ⟨h.ob, 2, none⟩ = some (.int .i64 h.pos) ∧ w'.cell? ⟨p, 0, none⟩ = some (.slice ya xs.length yc)) w4.drew := ⟨d0, d1, d2, d3, d4⟩
    refine wpAnyK_take (i := 0) (v := ?_) rfl (by kernel_rfl) (by kernel_rfl) (by kernel_rfl) (by kernel_rfl) (fun _ _ _ h => h) (Or.inl ⟨by rfl, ?_⟩) hS ?_
    rotate_left
    · intro w0 hS0; obtain ⟨q0, q1, q2, q3, q4⟩ := hS0; go_simp; try with_reducible rfl
    simp only [Act.put, List.setIfInBounds_toArray, List.set_cons_zero, List.set_cons_succ, List.getElem_toArray, List.getElem_cons_succ, List.getElem_cons_zero]
    refine wpAnyK_take (i := 1) (v := ?_) rfl (by kernel_rfl) (by kernel_rfl) (by kernel_rfl) (by kernel_rfl) (fun _ _ _ h => h) (Or.inl ⟨by rfl, ?_⟩) hS ?_
    rotate_left
    · intro w0 hS0; obtain ⟨q0, q1, q2, q3, q4⟩ := hS0; go_simp; try with_reducible rfl
    simp only [Act.put, List.setIfInBounds_toArray, List.set_cons_zero, List.set_cons_succ, List.getElem_toArray, List.getElem_cons_succ, List.getElem_cons_zero]
    refine wpAnyK_take (i := 2) (v := ?_) rfl (by kernel_rfl) (by kernel_rfl) (by kernel_rfl) (by kernel_rfl) (fun _ _ _ h => h) (Or.inl ⟨by rfl, ?_⟩) hS ?_
    rotate_left
    · intro w0 hS0; obtain ⟨q0, q1, q2, q3, q4⟩ := hS0; go_simp; try with_reducible rfl
    simp only [Act.put, List.setIfInBounds_toArray, List.set_cons_zero, List.set_cons_succ, List.getElem_toArray, List.getElem_cons_succ, List.getElem_cons_zero]
    refine wpAnyK_take (i := 3) (v := ?_) rfl (by kernel_rfl) (by kernel_rfl) (by kernel_rfl) (by kernel_rfl) (fun _ _ _ h => h) (Or.inl ⟨by rfl, ?_⟩) hS ?_
    rotate_left
    · intro w0 hS0; obtain ⟨q0, q1, q2, q3, q4⟩ := hS0; go_simp; try with_reducible rfl
    simp only [Act.put, List.setIfInBounds_toArray, List.set_cons_zero, List.set_cons_succ, List.getElem_toArray, List.getElem_cons_succ, List.getElem_cons_zero]
    refine wpAnyK_take (i := 4) (v := ?_) rfl (by kernel_rfl) (by kernel_rfl) (by kernel_rfl) (by kernel_rfl) (fun _ _ _ h => h) (Or.inl ⟨by rfl, ?_⟩) hS ?_
    rotate_left
    · intro w0 hS0; obtain ⟨q0, q1, q2, q3, q4⟩ := hS0; go_simp; try with_reducible rfl
    simp only [Act.put, List.setIfInBounds_toArray, List.set_cons_zero, List.set_cons_succ, List.getElem_toArray, List.getElem_cons_succ, List.getElem_cons_zero]
    refine wpAnyK_take (i := 5) (v := ?_) rfl (by kernel_rfl) (by kernel_rfl) (by kernel_rfl) (by kernel_rfl) (fun _ _ _ h => h) (Or.inl ⟨by rfl, ?_⟩) hS ?_
    rotate_left
    · intro w0 hS0; obtain ⟨q0, q1, q2, q3, q4⟩ := hS0; go_simp; try with_reducible rfl
    simp only [Act.put, List.setIfInBounds_toArray, List.set_cons_zero, List.set_cons_succ, List.getElem_toArray, List.getElem_cons_succ, List.getElem_cons_zero]
    refine wpAnyK_take (i := 6) (v := ?_) rfl (by kernel_rfl) (by kernel_rfl) (by kernel_rfl) (by kernel_rfl) (fun _ _ _ h => h) (Or.inl ⟨by rfl, ?_⟩) hS ?_
    rotate_left
    · intro w0 hS0; obtain ⟨q0, q1, q2, q3, q4⟩ := hS0; go_simp; try with_reducible rfl
    simp only [Act.put, List.setIfInBounds_toArray, List.set_cons_zero, List.set_cons_succ, List.getElem_toArray, List.getElem_cons_succ, List.getElem_cons_zero]
    refine wpAnyK_take (i := 7) (v := ?_) rfl (by kernel_rfl) (by kernel_rfl) (by kernel_rfl) (by kernel_rfl) (fun _ _ _ h => h) (Or.inl ⟨by rfl, ?_⟩) hS ?_
    rotate_left
    · intro w0 hS0; obtain ⟨q0, q1, q2, q3, q4⟩ := hS0; go_simp; try with_reducible rfl
    simp only [Act.put, List.setIfInBounds_toArray, List.set_cons_zero, List.set_cons_succ, List.getElem_toArray, List.getElem_cons_succ, List.getElem_cons_zero]
    refine wpAnyK_take (i := 8) (v := ?_) rfl (by kernel_rfl) (by kernel_rfl) (by kernel_rfl) (by kernel_rfl) (fun _ _ _ h => h) (Or.inl ⟨by rfl, ?_⟩) hS ?_
    rotate_left
    · intro w0 hS0; obtain ⟨q0, q1, q2, q3, q4⟩ := hS0; go_simp; try with_reducible rfl
    simp only [Act.put, List.setIfInBounds_toArray, List.set_cons_zero, List.set_cons_succ, List.getElem_toArray, List.getElem_cons_succ, List.getElem_cons_zero]
    refine wpAnyK_take (i := 9) (v := ?_) rfl (by kernel_rfl) (by kernel_rfl) (by kernel_rfl) (by kernel_rfl) (fun _ _ _ h => h) (Or.inl ⟨by rfl, ?_⟩) hS ?_
    rotate_left
    · intro w0 hS0; obtain ⟨q0, q1, q2, q3, q4⟩ := hS0; go_simp; try with_reducible rfl
    simp only [Act.put, List.setIfInBounds_toArray, List.set_cons_zero, List.set_cons_succ, List.getElem_toArray, List.getElem_cons_succ, List.getElem_cons_zero]
    refine wpAnyK_take (i := 10) (v := ?_) rfl (by kernel_rfl) (by kernel_rfl) (by kernel_rfl) (by kernel_rfl) (fun _ _ _ h => h) (Or.inl ⟨by rfl, ?_⟩) hS ?_
    rotate_left
    · intro w0 hS0; obtain ⟨q0, q1, q2, q3, q4⟩ := hS0; go_simp; try with_reducible rfl
    simp only [Act.put, List.setIfInBounds_toArray, List.set_cons_zero, List.set_cons_succ, List.getElem_toArray, List.getElem_cons_succ, List.getElem_cons_zero]
    refine wpAnyK_take (i := 11) (v := ?_) rfl (by kernel_rfl) (by kernel_rfl) (by kernel_rfl) (by kernel_rfl) (fun _ _ _ h => h) (Or.inl ⟨by rfl, ?_⟩) hS ?_
    rotate_left
    · intro w0 hS0; obtain ⟨q0, q1, q2, q3, q4⟩ := hS0; go_simp; try with_reducible rfl
    simp only [Act.put, List.setIfInBounds_toArray, List.set_cons_zero, List.set_cons_succ, List.getElem_toArray, List.getElem_cons_succ, List.getElem_cons_zero]
    refine wpAnyK_take (i := 12) (v := ?_) rfl (by kernel_rfl) (by kernel_rfl) (by kernel_rfl) (by kernel_rfl) (fun _ _ _ h => h) (Or.inl ⟨by rfl, ?_⟩) hS ?_
    rotate_left
    · intro w0 hS0; obtain ⟨q0, q1, q2, q3, q4⟩ := hS0; go_simp; try with_reducible rfl
    simp only [Act.put, List.setIfInBounds_toArray, List.set_cons_zero, List.set_cons_succ, List.getElem_toArray, List.getElem_cons_succ, List.getElem_cons_zero]
    refine wpAnyK_take (i := 13) (v := ?_) rfl (by kernel_rfl) (by kernel_rfl) (by kernel_rfl) (by kernel_rfl) (fun _ _ _ h => h) (Or.inl ⟨by rfl, ?_⟩) hS ?_
    rotate_left
    · intro w0 hS0; obtain ⟨q0, q1, q2, q3, q4⟩ := hS0; go_simp; try with_reducible rfl
    simp only [Act.put, List.setIfInBounds_toArray, List.set_cons_zero, List.set_cons_succ, List.getElem_toArray, List.getElem_cons_succ, List.getElem_cons_zero]
    refine wpAnyK_take (i := 14) (v := ?_) rfl (by kernel_rfl) (by kernel_rfl) (by kernel_rfl) (by kernel_rfl) (fun _ _ _ h => h) (Or.inl ⟨by rfl, ?_⟩) hS ?_
    rotate_left
    · intro w0 hS0; obtain ⟨q0, q1, q2, q3, q4⟩ := hS0; go_simp; try with_reducible rfl
    simp only [Act.put, List.setIfInBounds_toArray, List.set_cons_zero, List.set_cons_succ, List.getElem_toArray, List.getElem_cons_succ, List.getElem_cons_zero]
    refine wpAnyK_take (i := 15) (v := ?_) rfl (by kernel_rfl) (by kernel_rfl) (by kernel_rfl) (by kernel_rfl) (fun _ _ _ h => h) (Or.inl ⟨by rfl, ?_⟩) hS ?_
    rotate_left
    · intro w0 hS0; obtain ⟨q0, q1, q2, q3, q4⟩ := hS0; go_simp; try with_reducible rfl
    simp only [Act.put, List.setIfInBounds_toArray, List.set_cons_zero, List.set_cons_succ, List.getElem_toArray, List.getElem_cons_succ, List.getElem_cons_zero]
    refine wpAnyK_take (i := 16) (v := ?_) rfl (by kernel_rfl) (by kernel_rfl) (by kernel_rfl) (by kernel_rfl) (fun _ _ _ h => h) (Or.inl ⟨by rfl, ?_⟩) hS ?_
    rotate_left
    · intro w0 hS0; obtain ⟨q0, q1, q2, q3, q4⟩ := hS0; go_simp; try with_reducible rfl
    simp only [Act.put, List.setIfInBounds_toArray, List.set_cons_zero, List.set_cons_succ, List.getElem_toArray, List.getElem_cons_succ, List.getElem_cons_zero]
    refine wpAnyK_take (i := 17) (v := ?_) rfl (by kernel_rfl) (by kernel_rfl) (by kernel_rfl) (by kernel_rfl) (fun _ _ _ h => h) (Or.inl ⟨by rfl, ?_⟩) hS ?_
    rotate_left
    · intro w0 hS0; obtain ⟨q0, q1, q2, q3, q4⟩ := hS0; go_simp; try with_reducible rfl
    simp only [Act.put, List.setIfInBounds_toArray, List.set_cons_zero, List.set_cons_succ, List.getElem_toArray, List.getElem_cons_succ, List.getElem_cons_zero]
    refine wpAnyK_take (i := 18) (v := ?_) rfl (by kernel_rfl) (by kernel_rfl) (by kernel_rfl) (by kernel_rfl) (fun _ _ _ h => h) (Or.inl ⟨by rfl, ?_⟩) hS ?_
    rotate_left
    · intro w0 hS0; obtain ⟨q0, q1, q2, q3, q4⟩ := hS0; go_simp; try with_reducible rfl
    simp only [Act.put, List.setIfInBounds_toArray, List.set_cons_zero, List.set_cons_succ, List.getElem_toArray, List.getElem_cons_succ, List.getElem_cons_zero]
    refine wpAnyK_take (i := 19) (v := ?_) rfl (by kernel_rfl) (by kernel_rfl) (by kernel_rfl) (by kernel_rfl) (fun _ _ _ h => h) (Or.inl ⟨by rfl, ?_⟩) hS ?_
    rotate_left
    · intro w0 hS0; obtain ⟨q0, q1, q2, q3, q4⟩ := hS0; go_simp; try with_reducible rfl
    simp only [Act.put, List.setIfInBounds_toArray, List.set_cons_zero, List.set_cons_succ, List.getElem_toArray, List.getElem_cons_succ, List.getElem_cons_zero]
    refine wpAnyK_one (i := 20) rfl (by kernel_rfl) rfl ?_
    go_simp
    refine (size_any h.fb e.bv e.bs kk w4.drew m4 H4.out.drew (LL4.out _ _ HFILE.out) (HROW.out.le LL4.out) HKL.out hsz).mono ?_
    rintro e1 w5 ⟨bv', m5, rfl, gr, h5, n5, row5⟩
    clear hS d0 d1 d2 d3 d4 wk hmx
    have r4 := HR.out.le LL4.out
    rw [← HFB.out] at h5 row5
    have r5 := r4.setF HE.out bv' (resz e.bs kk) gr (by rw [resz_length]; exact row5) (by rw [resz_length]; exact HKL.out)
    have f5 := SRep.setF_fr (sb := sb) HE.out bv' (resz e.bs kk) gr (.cells #[bv'] 62 (0, 0))
    have bx5 := f5.keep _ _ BX4.out (HR.out.unknown HFR.out)
    have p5 := f5.keep _ _ (LL4.out _ _ HP.out) (HR.out.notB HP.out (by decide))
    have hk5 : (g.O)[k]? = some (some h) := HK.out
    have ob5 : (m5.set e.fb (.cells #[bv'] 62 (0, 0))) h.ob = some (hndObj h) := r5.hnd h (List.mem_of_getElem? HK.out)
    have wn5 : WindZ (m5.set e.fb (.cells #[bv'] 62 (0, 0))) (.slice ya xs.length yc) xs := HY.out.keep fun hp b o hb hm => f5.keep _ _ (LL4.out _ _ hm) (HNA.out hp b hb)
    have hsep : 0 < xs.length → ∀ b, (Value.slice ya xs.length yc).ownBlk = some b → bv'.ownBlock ≠ some b := fun hp b hb hc => by
      have hfp : FP sb { g with L := setL g.L e.fb bv' (resz e.bs kk) } b := .inr (.inr (.inl ⟨{ e with bv := bv', bs := resz e.bs kk }, List.mem_map.2 ⟨e, HE.out, by simp⟩, .inr hc⟩))
      rcases f5.new b hfp with x | x
      · exact HNA.out hp b hb x
      · rcases HY.out with ⟨_, _, _, h1⟩ | ⟨yg, yo, ycap, h1, _, c, ee, fz, h4, _⟩
        · rw [h1] at hp; exact absurd hp (Nat.lt_irrefl 0)
        · rw [h1] at hb
          obtain rfl : yg = b := Option.some.inj hb
          rw [LL4.out _ _ h4] at x; cases x
    obtain ⟨sv, hsl, hcp⟩ := copy_any bv' (.slice ya xs.length yc) kk h.pos (resz e.bs kk) xs _ 3 row5 (resz_length _ _) wn5 HQK.out hsep
    have d0 : w5.cell? ⟨xb, 0, none⟩ = some (.pointer (some ⟨h.ob, 0, none⟩)) := by rw [h5.cell bx5]; rfl
    have d1 : w5.cell? ⟨h.ob, 0, none⟩ = some (.pointer (some ⟨h.fb, 0, none⟩)) := by rw [h5.cell ob5]; rfl
    have d2 : w5.cell? ⟨h.fb, 0, none⟩ = some bv' := by rw [← HFB.out, h5.cell (Mem.set_same _ _ _)]; rfl
    have d3 : w5.cell? ⟨h.ob, 2, none⟩ = some (.int .i64 h.pos) := by rw [h5.cell ob5]; rfl
    have d4 : w5.cell? ⟨p, 0, none⟩ = some (.slice ya xs.length yc) := by rw [h5.cell p5]; rfl
    obtain ⟨w6, m6, hrun, n6, h6, row6, gr6⟩ := hcp w5.drew h5.drew
    have nt5 : bv'.ownBlock ≠ some e.fb := row5.notTy (Mem.set_same _ _ _) (by decide)
    have bx6 := gr6.keep bx5 (row5.notTy bx5 (by decide))
    have p6 := gr6.keep p5 (row5.notTy p5 (by decide))
    have fb6 := gr6.keep (Mem.set_same m5 e.fb (.cells #[bv'] 62 (0, 0))) nt5
    have ob6 := gr6.keep ob5 (row5.notTy ob5 (by decide))
    have hE1 : ({ e with bv := bv', bs := resz e.bs kk } : Ent) ∈ setL g.L e.fb bv' (resz e.bs kk) := List.mem_map.2 ⟨e, HE.out, by simp⟩
    have hwl : (wr (resz e.bs kk) h.pos xs).length = kk := by rw [wr_length (by rw [resz_length]; exact HQK.out), resz_length]
    have row6' : Row (m6.set e.fb (.cells #[bv'] 62 (0, 0))) bv' 5 1 (wr (resz e.bs kk) h.pos xs).length ((wr (resz e.bs kk) h.pos xs).map byteV) := by
      rw [Mem.set_eq _ fb6, hwl]; exact row6
    have r6 := r5.setF hE1 bv' (wr (resz e.bs kk) h.pos xs) gr6 row6' (by rw [hwl]; exact HKL.out)
    have f6 := SRep.setF_fr (sb := sb) (g := { g with L := setL g.L e.fb bv' (resz e.bs kk) }) hE1 bv' (wr (resz e.bs kk) h.pos xs) gr6 (.cells #[bv'] 62 (0, 0))
    change Fr _ (m6.set e.fb _) _ _ at f6
    change SRep (m6.set e.fb _) _ _ at r6
    rw [Mem.set_eq _ fb6] at f6 r6
    have hga : ({ g with L := setL (setL g.L e.fb bv' (resz e.bs kk)) e.fb bv' (wr (resz e.bs kk) h.pos xs) } : G).abs = g.abs.setF h.name (wr (resz e.bs kk) h.pos xs) := by
      have a1 := abs_setF r5 hE1 bv' (wr (resz e.bs kk) h.pos xs)
      have a2 := abs_setF HR.out HE.out bv' (resz e.bs kk)
      change ({ g with L := setL (setL g.L e.fb bv' (resz e.bs kk)) e.fb bv' (wr (resz e.bs kk) h.pos xs) } : G).abs = _ at a1
      rw [a1, a2]
      show (g.abs.setF e.name _).setF e.name _ = _
      rw [A.setF_setF, HNM.out]
    obtain ⟨gg, hgg⟩ : ∃ gg : G, ({ g with L := setL (setL g.L e.fb bv' (resz e.bs kk)) e.fb bv' (wr (resz e.bs kk) h.pos xs) } : G) = gg := ⟨_, rfl⟩
    have hgk : gg.O[k]? = some (some h) := by rw [← hgg]; exact HK.out
    change SRep m6 sb { g with L := setL (setL g.L e.fb bv' (resz e.bs kk)) e.fb bv' (wr (resz e.bs kk) h.pos xs) } at r6
    change Fr _ m6 _ (FP sb { g with L := setL (setL g.L e.fb bv' (resz e.bs kk)) e.fb bv' (wr (resz e.bs kk) h.pos xs) }) at f6
    rw [hgg] at r6 f6 hga
    have HGA := Lib.hid hga
    have HGK := Lib.hid hgk
    have H5 := Lib.hid h5
    have N6 := Lib.hid (((N4.out.drew.trans n5).drew).trans n6)
    have H6 := Lib.hid h6
    have BX6 := Lib.hid bx6
    have P6 := Lib.hid p6
    have OB6 := Lib.hid ob6
    have R6 := Lib.hid r6
    have F6 := Lib.hid ((Fr.of_le LL4.out (FP sb g)).trans (f5.trans f6))
    clear hga hgk hgg r4 h5 row5 r5 f5 bx5 p5 ob5 wn5 hsep hcp n6 n5 h6 row6 gr6 nt5 bx6 p6 fb6 ob6 hE1 row6' r6 f6 gr hk5
    refine wpAnyK_done (by kernel_rfl) ?_ _
    go_wp2_with fail
    refine wp_region_K 13 (fun w' => w'.cell? ⟨xb, 0, none⟩ = some (.pointer (some ⟨h.ob, 0, none⟩)) ∧ w'.cell? ⟨h.ob, 0, none⟩ = some (.pointer (some ⟨h.fb, 0, none⟩)) ∧
      w'.cell? ⟨h.fb, 0, none⟩ = some bv' ∧ w'.cell? ⟨h.ob, 2, none⟩ = some (.int .i64 h.pos) ∧ w'.cell? ⟨p, 0, none⟩ = some (.slice ya xs.length yc)) (by kernel_rfl) ?_
    have hS : (fun w' : World => w'.cell? ⟨xb, 0, none⟩ = some (.pointer (some ⟨h.ob, 0, none⟩)) ∧ w'.cell? ⟨h.ob, 0, none⟩ = some (.pointer (some ⟨h.fb, 0, none⟩)) ∧
      w'.cell? ⟨h.fb, 0, none⟩ = some bv' ∧ w'.cell? ⟨h.ob, 2, none⟩ = some (.int .i64 h.pos) ∧ w'.cell? ⟨p, 0, none⟩ = some (.slice ya xs.length yc)) w5.drew := ⟨d0, d1, d2, d3, d4⟩
    refine wpAnyK_take (i := 0) (v := ?_) rfl (by kernel_rfl) (by kernel_rfl) (by kernel_rfl) (by kernel_rfl) (fun _ _ _ h => h) (Or.inl ⟨by rfl, ?_⟩) hS ?_
    rotate_left
    · intro w0 hS0; obtain ⟨q0, q1, q2, q3, q4⟩ := hS0; go_simp; try with_reducible rfl
    simp only [Act.put, List.setIfInBounds_toArray, List.set_cons_zero, List.set_cons_succ, List.getElem_toArray, List.getElem_cons_succ, List.getElem_cons_zero]
    refine wpAnyK_take (i := 1) (v := ?_) rfl (by kernel_rfl) (by kernel_rfl) (by kernel_rfl) (by kernel_rfl) (fun _ _ _ h => h) (Or.inl ⟨by rfl, ?_⟩) hS ?_
    rotate_left
    · intro w0 hS0; obtain ⟨q0, q1, q2, q3, q4⟩ := hS0; go_simp; try with_reducible rfl
    simp only [Act.put, List.setIfInBounds_toArray, List.set_cons_zero, List.set_cons_succ, List.getElem_toArray, List.getElem_cons_succ, List.getElem_cons_zero]
    refine wpAnyK_take (i := 2) (v := ?_) rfl (by kernel_rfl) (by kernel_rfl) (by kernel_rfl) (by kernel_rfl) (fun _ _ _ h => h) (Or.inl ⟨by rfl, ?_⟩) hS ?_
    rotate_left
    · intro w0 hS0; obtain ⟨q0, q1, q2, q3, q4⟩ := hS0; go_simp; try with_reducible rfl
    simp only [Act.put, List.setIfInBounds_toArray, List.set_cons_zero, List.set_cons_succ, List.getElem_toArray, List.getElem_cons_succ, List.getElem_cons_zero]
    refine wpAnyK_take (i := 3) (v := ?_) rfl (by kernel_rfl) (by kernel_rfl) (by kernel_rfl) (by kernel_rfl) (fun _ _ _ h => h) (Or.inl ⟨by rfl, ?_⟩) hS ?_
    rotate_left
    · intro w0 hS0; obtain ⟨q0, q1, q2, q3, q4⟩ := hS0; go_simp; try with_reducible rfl
    simp only [Act.put, List.setIfInBounds_toArray, List.set_cons_zero, List.set_cons_succ, List.getElem_toArray, List.getElem_cons_succ, List.getElem_cons_zero]
    refine wpAnyK_take (i := 4) (v := ?_) rfl (by kernel_rfl) (by kernel_rfl) (by kernel_rfl) (by kernel_rfl) (fun _ _ _ h => h) (Or.inl ⟨by rfl, ?_⟩) hS ?_
    rotate_left
    · intro w0 hS0; obtain ⟨q0, q1, q2, q3, q4⟩ := hS0; go_simp; try with_reducible rfl
    simp only [Act.put, List.setIfInBounds_toArray, List.set_cons_zero, List.set_cons_succ, List.getElem_toArray, List.getElem_cons_succ, List.getElem_cons_zero]
    refine wpAnyK_take (i := 5) (v := ?_) rfl (by kernel_rfl) (by kernel_rfl) (by kernel_rfl) (by kernel_rfl) (fun _ _ _ h => h) (Or.inl ⟨by rfl, ?_⟩) hS ?_
    rotate_left
    · intro w0 hS0; obtain ⟨q0, q1, q2, q3, q4⟩ := hS0; go_simp; try with_reducible rfl
    simp only [Act.put, List.setIfInBounds_toArray, List.set_cons_zero, List.set_cons_succ, List.getElem_toArray, List.getElem_cons_succ, List.getElem_cons_zero]
    refine wpAnyK_take (i := 6) (v := ?_) rfl (by kernel_rfl) (by kernel_rfl) (by kernel_rfl) (by kernel_rfl) (fun _ _ _ h => h) (Or.inl ⟨by rfl, ?_⟩) hS ?_
    rotate_left
    · intro w0 hS0; obtain ⟨q0, q1, q2, q3, q4⟩ := hS0; go_simp; try with_reducible rfl
    simp only [Act.put, List.setIfInBounds_toArray, List.set_cons_zero, List.set_cons_succ, List.getElem_toArray, List.getElem_cons_succ, List.getElem_cons_zero]
    refine wpAnyK_take (i := 7) (v := ?_) rfl (by kernel_rfl) (by kernel_rfl) (by kernel_rfl) (by kernel_rfl) (fun _ _ _ h => h) (Or.inl ⟨by rfl, ?_⟩) hS ?_
    rotate_left
    · intro w0 hS0; obtain ⟨q0, q1, q2, q3, q4⟩ := hS0; go_simp; try with_reducible rfl
    simp only [Act.put, List.setIfInBounds_toArray, List.set_cons_zero, List.set_cons_succ, List.getElem_toArray, List.getElem_cons_succ, List.getElem_cons_zero]
    refine wpAnyK_take (i := 8) (v := ?_) rfl (by kernel_rfl) (by kernel_rfl) (by kernel_rfl) (by kernel_rfl) (fun _ _ _ h => h) (Or.inl ⟨by rfl, ?_⟩) hS ?_
    rotate_left
    · intro w0 hS0; obtain ⟨q0, q1, q2, q3, q4⟩ := hS0; go_simp; try with_reducible rfl
    simp only [Act.put, List.setIfInBounds_toArray, List.set_cons_zero, List.set_cons_succ, List.getElem_toArray, List.getElem_cons_succ, List.getElem_cons_zero]
    refine wpAnyK_take (i := 9) (v := ?_) rfl (by kernel_rfl) (by kernel_rfl) (by kernel_rfl) (by kernel_rfl) (fun _ _ _ h => h) (Or.inl ⟨by rfl, ?_⟩) hS ?_
    rotate_left
    · intro w0 hS0; obtain ⟨q0, q1, q2, q3, q4⟩ := hS0; go_simp; try with_reducible rfl
    simp only [Act.put, List.setIfInBounds_toArray, List.set_cons_zero, List.set_cons_succ, List.getElem_toArray, List.getElem_cons_succ, List.getElem_cons_zero]
    refine wpAnyK_take (i := 10) (v := ?_) rfl (by kernel_rfl) (by kernel_rfl) (by kernel_rfl) (by kernel_rfl) (fun _ _ _ h => h) (Or.inl ⟨by rfl, ?_⟩) hS ?_
    rotate_left
    · intro w0 hS0; obtain ⟨q0, q1, q2, q3, q4⟩ := hS0; go_simp; try with_reducible rfl
    simp only [Act.put, List.setIfInBounds_toArray, List.set_cons_zero, List.set_cons_succ, List.getElem_toArray, List.getElem_cons_succ, List.getElem_cons_zero]
    refine wpAnyK_take (i := 11) (v := ?_) rfl (by kernel_rfl) (by kernel_rfl) (by kernel_rfl) (by kernel_rfl) (fun _ _ _ h => h) (Or.inl ⟨by rfl, ?_⟩) hS ?_
    rotate_left
    · intro w0 hS0; obtain ⟨q0, q1, q2, q3, q4⟩ := hS0; go_simp; try with_reducible rfl
    simp only [Act.put, List.setIfInBounds_toArray, List.set_cons_zero, List.set_cons_succ, List.getElem_toArray, List.getElem_cons_succ, List.getElem_cons_zero]
    refine wpAnyK_take (i := 12) (v := ?_) rfl (by kernel_rfl) (by kernel_rfl) (by kernel_rfl) (by kernel_rfl) (fun _ _ _ h => h) (Or.inl ⟨by rfl, ?_⟩) hS ?_
    rotate_left
    · intro w0 hS0; obtain ⟨q0, q1, q2, q3, q4⟩ := hS0; go_simp; try with_reducible rfl
    simp only [Act.put, List.setIfInBounds_toArray, List.set_cons_zero, List.set_cons_succ, List.getElem_toArray, List.getElem_cons_succ, List.getElem_cons_zero]
    refine wpAnyK_one (i := 13) rfl (by kernel_rfl) rfl ?_
    refine wp_b2 .copy Builtin.copy_ (fun _ _ _ _ => rfl) (.tmp 50) (.tmp 51) 33 33 rfl rfl rfl hrun ?_
    refine ⟨fun h => absurd h (by decide), wpAnyK_done (by kernel_rfl) ?_ _⟩
    clear hS d0 d1 d2 d3 d4 hrun hsl
    go_wp2_with fail
    have d0 : w6.cell? ⟨xb, 0, none⟩ = some (.pointer (some ⟨h.ob, 0, none⟩)) := by rw [H6.out.cell BX6.out]; rfl
    have d3 : w6.cell? ⟨h.ob, 2, none⟩ = some (.int .i64 h.pos) := by rw [H6.out.cell OB6.out]; rfl
    have d5 : w6.frozen? ⟨h.ob, 2, none⟩ = false := H6.out.froz OB6.out
    have d4 : w6.cell? ⟨p, 0, none⟩ = some (.slice ya xs.length yc) := by rw [H6.out.cell P6.out]; rfl
    have wk : IntKind.i64.wrap ((h.pos : Int) + (xs.length : Int)) = (q : Int) := by
      have := HFIT.out
      rw [← HQ.out]; simp only [IntKind.wrap, IntKind.signed, IntKind.bits]; simp; omega
    refine wp_region_K 9 (fun w' => w'.cell? ⟨xb, 0, none⟩ = some (.pointer (some ⟨h.ob, 0, none⟩)) ∧ w'.cell? ⟨h.ob, 2, none⟩ = some (.int .i64 h.pos) ∧ w'.cell? ⟨p, 0, none⟩ = some (.slice ya xs.length yc)) (by kernel_rfl) ?_
    have hS : (fun w' : World => w'.cell? ⟨xb, 0, none⟩ = some (.pointer (some ⟨h.ob, 0, none⟩)) ∧ w'.cell? ⟨h.ob, 2, none⟩ = some (.int .i64 h.pos) ∧ w'.cell? ⟨p, 0, none⟩ = some (.slice ya xs.length yc)) w6.drew := ⟨d0, d3, d4⟩
    refine wpAnyK_take (i := 0) (v := ?_) rfl (by kernel_rfl) (by kernel_rfl) (by kernel_rfl) (by kernel_rfl) (fun _ _ _ h => h) (Or.inl ⟨by rfl, ?_⟩) hS ?_
    rotate_left
    · intro w0 hS0; obtain ⟨q0, q1, q2⟩ := hS0; go_simp; try with_reducible rfl
    simp only [Act.put, List.setIfInBounds_toArray, List.set_cons_zero, List.set_cons_succ, List.getElem_toArray, List.getElem_cons_succ, List.getElem_cons_zero]
    refine wpAnyK_take (i := 1) (v := ?_) rfl (by kernel_rfl) (by kernel_rfl) (by kernel_rfl) (by kernel_rfl) (fun _ _ _ h => h) (Or.inl ⟨by rfl, ?_⟩) hS ?_
    rotate_left
    · intro w0 hS0; obtain ⟨q0, q1, q2⟩ := hS0; go_simp; try with_reducible rfl
    simp only [Act.put, List.setIfInBounds_toArray, List.set_cons_zero, List.set_cons_succ, List.getElem_toArray, List.getElem_cons_succ, List.getElem_cons_zero]
    refine wpAnyK_take (i := 2) (v := ?_) rfl (by kernel_rfl) (by kernel_rfl) (by kernel_rfl) (by kernel_rfl) (fun _ _ _ h => h) (Or.inl ⟨by rfl, ?_⟩) hS ?_
    rotate_left
    · intro w0 hS0; obtain ⟨q0, q1, q2⟩ := hS0; go_simp; try with_reducible rfl
    simp only [Act.put, List.setIfInBounds_toArray, List.set_cons_zero, List.set_cons_succ, List.getElem_toArray, List.getElem_cons_succ, List.getElem_cons_zero]
    refine wpAnyK_take (i := 3) (v := ?_) rfl (by kernel_rfl) (by kernel_rfl) (by kernel_rfl) (by kernel_rfl) (fun _ _ _ h => h) (Or.inl ⟨by rfl, ?_⟩) hS ?_
    rotate_left
    · intro w0 hS0; obtain ⟨q0, q1, q2⟩ := hS0; go_simp; try with_reducible rfl
    simp only [Act.put, List.setIfInBounds_toArray, List.set_cons_zero, List.set_cons_succ, List.getElem_toArray, List.getElem_cons_succ, List.getElem_cons_zero]
    refine wpAnyK_take (i := 4) (v := ?_) rfl (by kernel_rfl) (by kernel_rfl) (by kernel_rfl) (by kernel_rfl) (fun _ _ _ h => h) (Or.inl ⟨by rfl, ?_⟩) hS ?_
    rotate_left
    · intro w0 hS0; obtain ⟨q0, q1, q2⟩ := hS0; go_simp; try with_reducible rfl
    simp only [Act.put, List.setIfInBounds_toArray, List.set_cons_zero, List.set_cons_succ, List.getElem_toArray, List.getElem_cons_succ, List.getElem_cons_zero]
    refine wpAnyK_take (i := 5) (v := ?_) rfl (by kernel_rfl) (by kernel_rfl) (by kernel_rfl) (by kernel_rfl) (fun _ _ _ h => h) (Or.inl ⟨by rfl, ?_⟩) hS ?_
    rotate_left
    · intro w0 hS0; obtain ⟨q0, q1, q2⟩ := hS0; go_simp; try with_reducible rfl
    simp only [Act.put, List.setIfInBounds_toArray, List.set_cons_zero, List.set_cons_succ, List.getElem_toArray, List.getElem_cons_succ, List.getElem_cons_zero]
    refine wpAnyK_take (i := 6) (v := ?_) rfl (by kernel_rfl) (by kernel_rfl) (by kernel_rfl) (by kernel_rfl) (fun _ _ _ h => h) (Or.inl ⟨by rfl, ?_⟩) hS ?_
    rotate_left
    · intro w0 hS0; obtain ⟨q0, q1, q2⟩ := hS0; go_simp; try with_reducible rfl
    simp only [Act.put, List.setIfInBounds_toArray, List.set_cons_zero, List.set_cons_succ, List.getElem_toArray, List.getElem_cons_succ, List.getElem_cons_zero]
    refine wpAnyK_take (i := 7) (v := ?_) rfl (by kernel_rfl) (by kernel_rfl) (by kernel_rfl) (by kernel_rfl) (fun _ _ _ h => h) (Or.inl ⟨by rfl, ?_⟩) hS ?_
    rotate_left
    · intro w0 hS0; obtain ⟨q0, q1, q2⟩ := hS0; go_simp; try with_reducible rfl
    simp only [Act.put, List.setIfInBounds_toArray, List.set_cons_zero, List.set_cons_succ, List.getElem_toArray, List.getElem_cons_succ, List.getElem_cons_zero]
    refine wpAnyK_take (i := 8) (v := ?_) rfl (by kernel_rfl) (by kernel_rfl) (by kernel_rfl) (by kernel_rfl) (fun _ _ _ h => h) (Or.inl ⟨by rfl, ?_⟩) hS ?_
    rotate_left
    · intro w0 hS0; obtain ⟨q0, q1, q2⟩ := hS0; go_simp; try with_reducible rfl
    simp only [Act.put, List.setIfInBounds_toArray, List.set_cons_zero, List.set_cons_succ, List.getElem_toArray, List.getElem_cons_succ, List.getElem_cons_zero]
    refine wpAnyK_one (i := 9) rfl (by kernel_rfl) rfl ?_
    go_simp
    refine wpAnyK_done (by kernel_rfl) ?_ _
    go_wp2_with fail
    go_ret
    have hF : writeF k xs g.abs h.abs (f0, f1, fs) = ((g.abs.setF h.name (wr (resz e.bs kk) h.pos xs)).setH k (some (h.name, h.mode, q)), 0, ()) := by
      unfold writeF
      rw [if_neg (fun c => c HX.out)]
      show ((g.abs.setF h.name (wr (resz (g.abs.bytes h.name) (max (g.abs.bytes h.name).length (h.pos + xs.length))) h.pos xs)).setH k (some (h.name, h.mode, h.pos + xs.length)), (0 : Int), ()) = _
      rw [HBS.out, HQ.out, HKK.out]
    rw [hF]
    have hql : q ≤ 262144 := by have := HQ.out; have := HFIT.out; omega
    have hst := H6.out.drew.storeTo (off := 2) (c' := #[.pointer (some ⟨h.fb, 0, none⟩), .int .i64 h.mode, .int .i64 (q : Int)]) OB6.out (.int .i64 (q : Int)) (by simp)
    refine ⟨.nilIface, 0, _, rfl, hst, N6.out.drew.setCell _ _, .inl ⟨rfl, rfl⟩, _, R6.out.setH HGK.out h.mode q hql, ?_, ?_, rfl, trivial⟩
    · exact (F6.out.trans (SRep.setH_fr (h := h) HGK.out h.mode q _)).more _
    · rw [abs_setH _ _ _ ((List.getElem?_eq_some_iff.1 HGK.out).1), HGA.out]; rfl
  · obtain ⟨b4, hb4⟩ : ∃ b, v4 = .iface 98 (.pointer (some ⟨b, 0, none⟩)) := by
      rcases HV4.out with ⟨h, _⟩ | ⟨_, b, h, _⟩
      · exact absurd h hx
      · exact ⟨b, h⟩
    subst hb4
    have HX := Lib.hid hx
    clear hx
    go_wp2_with fail
    go_ret
    have hF : writeF k xs g.abs h.abs (f0, f1, fs) = (g.abs, writeX h.abs xs, ()) := by unfold writeF; rw [if_pos HX.out]
    rw [hF]
    exact ⟨_, _, m4, rfl, H4.out, N4.out, HV4.out, g, HR.out.le LL4.out, (Fr.of_le LL4.out _).mono (fun b hb => .inl (.inl hb)), rfl, rfl, trivial⟩
end Go.Proofs.YtcdmdkgiabfbeaaDoor

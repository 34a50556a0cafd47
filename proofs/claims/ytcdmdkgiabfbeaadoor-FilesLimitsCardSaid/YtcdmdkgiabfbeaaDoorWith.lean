/-
  with: what is done with an open file.
-/
import Derived.Test.YtcdmdkgiabfbeaaDoorClone
import Derived.Test.YtcdmdkgiabfbeaaDoorIor
namespace Go.Proofs.YtcdmdkgiabfbeaaDoor
open Go.RowKit

/-- The open file of a number. -/
def hndAt (O : List (Option Hnd)) (id : Int) : Option Hnd := if 1 ≤ id ∧ id ≤ O.length then (O[(id - 1).toNat]?).join else none

theorem hndAt_some {O : List (Option Hnd)} {id : Int} {h : Hnd} (e : hndAt O id = some h) : ∃ k : Nat, id = (k : Int) + 1 ∧ ∃ hk : k < O.length, O[k] = some h := by
  unfold hndAt at e
  split at e
  · rename_i hb
    refine ⟨(id - 1).toNat, by omega, by omega, ?_⟩
    rw [List.getElem?_eq_getElem (by omega)] at e
    simpa using e
  · cases e
theorem hndAt_ok {O : List (Option Hnd)} {k : Nat} (hk : k < O.length) : hndAt O ((k : Int) + 1) = O[k] := by
  unfold hndAt
  rw [if_pos (by omega), show ((k : Int) + 1 - 1).toNat = k from by omega, List.getElem?_eq_getElem hk]
  simp

/-- What a store's operation number n is told. -/
def G.now (g : G) : Fail3 := failAt g.fails (g.n + 1)
def G.tick (g : G) : G := { g with n := g.n + 1 }

/-- What with does with an open file: it answers x, and R holds of what is known then. -/
def Does (w1 : World) (R : Mem → Int → Prop) (e : Ending) (w2 : World) : Prop :=
  ∃ ev x m2, e = .returned ev ∧ Has w2 m2 ∧ Env w1 w2 ∧ ErrIs m2 ev x ∧ GlobOk m2 ∧ R m2 x
/-- What an operation answers. -/
def Ans (w : World) (R : Mem → Int → Prop) (e : Ending) (w2 : World) : Prop :=
  ∃ x m2, e = .returned (.int .i64 x) ∧ Has w2 m2 ∧ Env w w2 ∧ R m2 x

theorem begin_g (sb : Nat) (g : G) (w : World) (m : Mem) (hm : Has w m) (hr : SRep m sb g) (hn : g.n ≤ 999999) :
    Calls Tryd.prog 21 #[.pointer (some ⟨sb, 0, none⟩)] w
      (Post w (m.set sb (storeObj g.tick)) fun v m' => ∃ ev, v = .tuple #[failV g.now, ev] ∧ ErrIs m' ev g.now.2.1) := by
  refine (begin_any sb (.map (some g.mb)) g.fv g.ov g.n g.fails w m hm hr.store hr.fails hr.fl (by omega) (by omega)).mono fun e w' h => ?_
  exact h

theorem optNil (b : Bool) : (if b then Value.pointer none else Value.pointer none) = .pointer none := by cases b <;> rfl

set_option maxHeartbeats 2000000 in
theorem with_any (sb : Nat) (id : Int) (g : G) (fn : FuncId) (caps : Array Value) (w : World) (m : Mem) (hm : Has w m) (hr : SRep m sb g) (hG : GlobOk m) (hn : g.n ≤ 999999) (he : Enters fn) (R : Mem → Int → Prop)
    (hdo : g.now.2.1 = 0 → ∀ h, hndAt g.O id = some h → ∀ w1 m1, (m.set sb (storeObj g.tick)).le m1 → Has w1 m1 → Calls Tryd.prog fn (#[.pointer (some ⟨h.ob, 0, none⟩), failV g.now] ++ caps) w1 (Does w1 R))
    (hfail : g.now.2.1 ≠ 0 → ∀ m1, (m.set sb (storeObj g.tick)).le m1 → R m1 g.now.2.1)
    (hbad : g.now.2.1 = 0 → hndAt g.O id = none → ∀ m1, (m.set sb (storeObj g.tick)).le m1 → R m1 (-37)) :
    Calls Tryd.prog 31 #[.pointer (some ⟨sb, 0, none⟩), .int .i64 id, .func (.func fn) #[] caps] w (Ans w R) := by
  have r1 := hr.count
  have hG1 : GlobOk (m.set sb (storeObj g.tick)) := by
    obtain ⟨c, e, fz, h1, h2⟩ := hG
    have : (0 : Nat) ≠ sb := by
      intro e0
      rw [e0, hr.store] at h1
      simp only [storeObj, Option.some.injEq, Obj.cells.injEq] at h1
      rw [← h1.1] at h2
      simp at h2
    exact ⟨c, e, fz, by rw [Mem.set_ne _ _ this]; exact h1, h2⟩
  have BG := begin_g sb g w m hm hr hn
  have HBG := Lib.hid BG
  have R1 := Lib.hid r1
  have HG1 := Lib.hid hG1
  have HDO := Lib.hid hdo
  have HFA := Lib.hid hfail
  have HBA := Lib.hid hbad
  have HEN := Lib.hid he
  clear hm hr hG hn r1 hG1 BG hdo hfail hbad he
  go_enter Tryd.func31, Tryd.ntmps31
  go_wp2_with fail
  refine HBG.out.mono ?_
  rintro e w2 ⟨v, m2, rfl, l2, h2, n2, ev, rfl, hev⟩
  have L2 := Lib.hid l2
  have H2 := Lib.hid h2
  have N2 := Lib.hid n2
  have HEV := Lib.hid hev
  clear l2 h2 n2 hev
  obtain ⟨⟨f0, f1, f2⟩, hf⟩ : ∃ f, g.now = f := ⟨_, rfl⟩
  have R2 := Lib.hid (R1.out.le L2.out)
  have G2 := Lib.hid (HG1.out.le L2.out)
  have HFR := Lib.hid (H2.out.fresh (Nat.le_refl _))
  have HF := Lib.hid hf
  rw [hf] at HEV ⊢
  simp only [failV]
  clear hf
  by_cases h1 : f1 = 0
  · subst h1
    have hev : ev = .nilIface := by rcases HEV.out with ⟨_, h⟩ | ⟨h, _⟩; exact h; exact absurd rfl h
    subst hev
    obtain ⟨oa, oc, ho, hoc⟩ := R2.out.opens.lenV
    have ho' : g.ov = .slice oa g.O.length oc := ho
    have hlen : g.O.length ≤ 32 := R2.out.olen
    have c2 : w2.cell? ⟨sb, 2, none⟩ = some (.slice oa g.O.length oc) := by rw [H2.out.cell R2.out.store, ← ho']; rfl
    have l1 := H2.out.lt R2.out.store
    have HO := Lib.hid ho'
    have TAIL : ∀ w3, Has w3 m2 → Env w w3 → hndAt g.O id = none → Calls Tryd.prog 43 #[.int .i64 (-37)] w3 fun e w4 => ∃ ev, e = .returned ev ∧ (∃ b, ev = .iface 98 (.pointer (some ⟨b, 0, none⟩))) ∧ Calls Tryd.prog 29 #[ev] w4 (Ans w R) := by
      intro w3 h3 n3 hno
      refine (refuse_any (-37) _ _ h3 (by decide)).mono ?_
      rintro e w4 ⟨v, m4, rfl, l4, h4, n4, hv⟩
      refine ⟨v, rfl, ?_, ?_⟩
      · rcases hv with ⟨h, _⟩ | ⟨_, b, h, _⟩
        · cases h
        · exact ⟨b, h⟩
      · refine (ior_any _ _ _ _ h4 (G2.out.le l4) hv).mono ?_
        rintro e w5 ⟨v, m5, rfl, l5, h5, n5, rfl⟩
        exact ⟨-37, m5, rfl, h5, (n3.trans n4).trans n5, HBA.out (by rw [HF.out]) hno m5 (Mem.le_trans (Mem.le_trans L2.out l4) l5)⟩
    have HTAIL := Lib.hid TAIL
    clear ho ho' TAIL
    by_cases hb1 : id < 1
    · have hno := Lib.hid (show hndAt g.O id = none from by unfold hndAt; rw [if_neg (by omega)])
      go_wp2_with fail
      refine (HTAIL.out _ (H2.out.keep _) (N2.out.alloc _) hno.out).mono ?_
      rintro e w3 ⟨ev, rfl, ⟨b, rfl⟩, hc⟩
      have HC := Lib.hid hc
      clear hc
      go_wp2_with fail
      refine HC.out.mono ?_
      rintro e w4 ⟨x, m4, rfl, r⟩
      have RR := Lib.hid r
      clear r
      go_wp2_with fail
      go_ret
      exact ⟨x, m4, rfl, RR.out⟩
    · by_cases hb2 : (g.O.length : Int) < id
      · have hno := Lib.hid (show hndAt g.O id = none from by unfold hndAt; rw [if_neg (by omega)])
        go_wp2_with fail
        refine (HTAIL.out _ (H2.out.keep _) (N2.out.alloc _) hno.out).mono ?_
        rintro e w3 ⟨ev, rfl, ⟨b, rfl⟩, hc⟩
        have HC := Lib.hid hc
        clear hc
        go_wp2_with fail
        refine HC.out.mono ?_
        rintro e w4 ⟨x, m4, rfl, r⟩
        have RR := Lib.hid r
        clear r
        go_wp2_with fail
        go_ret
        exact ⟨x, m4, rfl, RR.out⟩
      · obtain ⟨k, hk⟩ : ∃ k : Nat, id = (k : Int) + 1 := ⟨(id - 1).toNat, by omega⟩
        subst hk
        have hlt : k < g.O.length := by omega
        obtain ⟨ob, hoa⟩ : ∃ ob, oa = some ⟨ob, 0, none⟩ := by
          have h1 : Row m2 g.ov 77 1 g.O.length (g.O.map hndV) := R2.out.opens
          rw [HO.out] at h1
          rcases h1.2 with ⟨_, h⟩ | ⟨gg, cap, cur, fz, h, _⟩
          · omega
          · simp only [Value.slice.injEq] at h; exact ⟨gg, h.1⟩
        subst hoa
        have hrow : Row m2 (.slice (some ⟨ob, 0, none⟩) g.O.length oc) 77 1 g.O.length (g.O.map hndV) := by
          have h1 : Row m2 g.ov 77 1 g.O.length (g.O.map hndV) := R2.out.opens
          rwa [HO.out] at h1
        have e0 : w2.cell? ⟨ob, k, none⟩ = some (hndV g.O[k]) := by
          rw [hrow.cell H2.out (by omega)]
          simp [hlt]
        have l2 : ob < w2.heap.size := by
          obtain ⟨cur, fz, hc⟩ := hrow.ty rfl
          exact H2.out.lt hc
        have HW := Lib.hid (hndAt_ok hlt)
        clear hrow
        cases hx : g.O[k] with
        | none =>
          rw [hx] at e0 HW
          clear hx
          simp only [hndV] at e0
          go_wp2_with fail
          refine (HTAIL.out _ (H2.out.keep _) (N2.out.alloc _) HW.out).mono ?_
          rintro e w3 ⟨ev, rfl, ⟨b, rfl⟩, hc⟩
          have HC := Lib.hid hc
          clear hc
          go_wp2_with fail
          refine HC.out.mono ?_
          rintro e w4 ⟨x, m4, rfl, r⟩
          have RR := Lib.hid r
          clear r
          go_wp2_with fail
          go_ret
          exact ⟨x, m4, rfl, RR.out⟩
        | some h =>
          rw [hx] at e0 HW
          have HGK := Lib.hid hx
          clear hx
          simp only [hndV] at e0
          go_wp2_with fail
          refine wp_opaque w _ (H2.out.alloc (.cells #[.int .i64 f0, .int .i64 0, .int .i64 f2] 54)) (N2.out.alloc _) ?_
          intro w3 h3m h3e
          have lm := Mem.le_set m2 (.cells #[.int .i64 f0, .int .i64 0, .int .i64 f2] 54) HFR.out
          have s0 : w3.cell? ⟨w2.heap.size, 0, none⟩ = some (.int .i64 f0) := by rw [h3m.cell (Mem.set_same _ _ _)]; rfl
          have s1 : w3.cell? ⟨w2.heap.size, 1, none⟩ = some (.int .i64 0) := by rw [h3m.cell (Mem.set_same _ _ _)]; rfl
          have s2 : w3.cell? ⟨w2.heap.size, 2, none⟩ = some (.int .i64 f2) := by rw [h3m.cell (Mem.set_same _ _ _)]; rfl
          have s3 : w3.cell? ⟨sb, 2, none⟩ = some (.slice (some ⟨ob, 0, none⟩) g.O.length oc) := by
            have := R2.out.store
            rw [h3m.cell (lm _ _ this), ← HO.out]; rfl
          have s4 : w3.cell? ⟨ob, k, none⟩ = some (.pointer (some ⟨h.ob, 0, none⟩)) := by
            have h1 : Row m2 g.ov 77 1 g.O.length (g.O.map hndV) := R2.out.opens
            rw [HO.out] at h1
            rw [(h1.le lm).cell h3m (by omega)]
            have := HGK.out
            simp [hlt, this, hndV]
          have H3 := Lib.hid h3m
          have N3 := Lib.hid h3e
          have LM := Lib.hid lm
          have dd := HDO.out (by rw [HF.out]) h HW.out
          rw [HF.out] at dd
          have DO := Lib.hid dd
          clear dd
          have he := HEN.out
          unfold Enters at he
          have wk : IntKind.i64.wrap (k : Int) = (k : Int) := by simp [IntKind.wrap, IntKind.signed, IntKind.bits]; omega
          have bk : (k : Int) < (g.O.length : Int) := by omega
          generalize w2.heap.size = tb at *
          clear h3m h3e lm c2 e0 l1 l2
          refine wp_region_K 10 (fun w' => w'.cell? ⟨tb, 0, none⟩ = some (.int .i64 f0) ∧ w'.cell? ⟨tb, 1, none⟩ = some (.int .i64 0) ∧ w'.cell? ⟨tb, 2, none⟩ = some (.int .i64 f2) ∧
            w'.cell? ⟨sb, 2, none⟩ = some (.slice (some ⟨ob, 0, none⟩) g.O.length oc) ∧ w'.cell? ⟨ob, k, none⟩ = some (.pointer (some ⟨h.ob, 0, none⟩))) (by kernel_rfl) ?_
          have hS : (fun w' : World => w'.cell? ⟨tb, 0, none⟩ = some (.int .i64 f0) ∧ w'.cell? ⟨tb, 1, none⟩ = some (.int .i64 0) ∧ w'.cell? ⟨tb, 2, none⟩ = some (.int .i64 f2) ∧
            w'.cell? ⟨sb, 2, none⟩ = some (.slice (some ⟨ob, 0, none⟩) g.O.length oc) ∧ w'.cell? ⟨ob, k, none⟩ = some (.pointer (some ⟨h.ob, 0, none⟩))) w3.drew := ⟨s0, s1, s2, s3, s4⟩
          refine wpAnyK_take (i := 0) (v := ?_) rfl (by kernel_rfl) (by kernel_rfl) (by kernel_rfl) (by kernel_rfl) (fun _ _ _ h => h) (Or.inl ⟨by rfl, ?_⟩) hS ?_
          rotate_left
          · intro w0 hS0; obtain ⟨q0, q1, q2, q3, q4⟩ := hS0; go_simp; try with_reducible rfl
          simp only [Act.put, List.setIfInBounds_toArray, List.set_cons_zero, List.set_cons_succ, List.getElem_toArray, List.getElem_cons_succ, List.getElem_cons_zero]
          refine wpAnyK_take (i := 1) (v := ?_) rfl (by kernel_rfl) (by kernel_rfl) (by kernel_rfl) (by kernel_rfl) (fun _ _ _ h => h) (Or.inl ⟨by rfl, ?_⟩) hS ?_
          rotate_left
          · intro w0 hS0; obtain ⟨q0, q1, q2, q3, q4⟩ := hS0; go_simp; try with_reducible rfl
          simp only [Act.put, List.setIfInBounds_toArray, List.set_cons_zero, List.set_cons_succ, List.getElem_toArray, List.getElem_cons_succ, List.getElem_cons_zero]
          refine wpAnyK_take (i := 2) (v := ?_) rfl (by kernel_rfl) (by kernel_rfl) (by kernel_rfl) (by kernel_rfl) (fun _ _ _ h => h) (Or.inl ⟨by rfl, ?_⟩) hS ?_
          rotate_left
          · intro w0 hS0; obtain ⟨q0, q1, q2, q3, q4⟩ := hS0; go_simp; try with_reducible rfl
          simp only [Act.put, List.setIfInBounds_toArray, List.set_cons_zero, List.set_cons_succ, List.getElem_toArray, List.getElem_cons_succ, List.getElem_cons_zero]
          refine wpAnyK_take (i := 3) (v := ?_) rfl (by kernel_rfl) (by kernel_rfl) (by kernel_rfl) (by kernel_rfl) (fun _ _ _ h => h) (Or.inl ⟨by rfl, ?_⟩) hS ?_
          rotate_left
          · intro w0 hS0; obtain ⟨q0, q1, q2, q3, q4⟩ := hS0; go_simp; try with_reducible rfl
          simp only [Act.put, List.setIfInBounds_toArray, List.set_cons_zero, List.set_cons_succ, List.getElem_toArray, List.getElem_cons_succ, List.getElem_cons_zero]
          refine wpAnyK_take (i := 4) (v := ?_) rfl (by kernel_rfl) (by kernel_rfl) (by kernel_rfl) (by kernel_rfl) (fun _ _ _ h => h) (Or.inl ⟨by rfl, ?_⟩) hS ?_
          rotate_left
          · intro w0 hS0; obtain ⟨q0, q1, q2, q3, q4⟩ := hS0; go_simp; try with_reducible rfl
          simp only [Act.put, List.setIfInBounds_toArray, List.set_cons_zero, List.set_cons_succ, List.getElem_toArray, List.getElem_cons_succ, List.getElem_cons_zero]
          refine wpAnyK_take (i := 5) (v := ?_) rfl (by kernel_rfl) (by kernel_rfl) (by kernel_rfl) (by kernel_rfl) (fun _ _ _ h => h) (Or.inl ⟨by rfl, ?_⟩) hS ?_
          rotate_left
          · intro w0 hS0; obtain ⟨q0, q1, q2, q3, q4⟩ := hS0; go_simp; try with_reducible rfl
          simp only [Act.put, List.setIfInBounds_toArray, List.set_cons_zero, List.set_cons_succ, List.getElem_toArray, List.getElem_cons_succ, List.getElem_cons_zero]
          refine wpAnyK_take (i := 6) (v := ?_) rfl (by kernel_rfl) (by kernel_rfl) (by kernel_rfl) (by kernel_rfl) (fun _ _ _ h => h) (Or.inl ⟨by rfl, ?_⟩) hS ?_
          rotate_left
          · intro w0 hS0; obtain ⟨q0, q1, q2, q3, q4⟩ := hS0; go_simp; try with_reducible rfl
          simp only [Act.put, List.setIfInBounds_toArray, List.set_cons_zero, List.set_cons_succ, List.getElem_toArray, List.getElem_cons_succ, List.getElem_cons_zero]
          refine wpAnyK_take (i := 7) (v := ?_) rfl (by kernel_rfl) (by kernel_rfl) (by kernel_rfl) (by kernel_rfl) (fun _ _ _ h => h) (Or.inl ⟨by rfl, ?_⟩) hS ?_
          rotate_left
          · intro w0 hS0; obtain ⟨q0, q1, q2, q3, q4⟩ := hS0; go_simp; try with_reducible rfl
          simp only [Act.put, List.setIfInBounds_toArray, List.set_cons_zero, List.set_cons_succ, List.getElem_toArray, List.getElem_cons_succ, List.getElem_cons_zero]
          refine wpAnyK_take (i := 8) (v := ?_) rfl (by kernel_rfl) (by kernel_rfl) (by kernel_rfl) (by kernel_rfl) (fun _ _ _ h => h) (Or.inl ⟨by rfl, ?_⟩) hS ?_
          rotate_left
          · intro w0 hS0; obtain ⟨q0, q1, q2, q3, q4⟩ := hS0; go_simp; try with_reducible rfl
          simp only [Act.put, List.setIfInBounds_toArray, List.set_cons_zero, List.set_cons_succ, List.getElem_toArray, List.getElem_cons_succ, List.getElem_cons_zero]
          refine wpAnyK_take (i := 9) (v := ?_) rfl (by kernel_rfl) (by kernel_rfl) (by kernel_rfl) (by kernel_rfl) (fun _ _ _ h => h) (Or.inl ⟨by rfl, ?_⟩) hS ?_
          rotate_left
          · intro w0 hS0; obtain ⟨q0, q1, q2, q3, q4⟩ := hS0; go_simp; try with_reducible rfl
          simp only [Act.put, List.setIfInBounds_toArray, List.set_cons_zero, List.set_cons_succ, List.getElem_toArray, List.getElem_cons_succ, List.getElem_cons_zero]
          refine wpAnyK_one (i := 10) rfl (by kernel_rfl) rfl ?_
          go_simp
          refine (DO.out w3.drew _ (Mem.le_trans L2.out LM.out) H3.out.drew).mono ?_
          rintro e w4 ⟨ev, x, m4, rfl, h4, n4, hev, hg4, hr4⟩
          have H4 := Lib.hid h4
          have N4 := Lib.hid n4
          have EV := Lib.hid hev
          have G4 := Lib.hid hg4
          have R4 := Lib.hid hr4
          clear h4 n4 hev hg4 hr4 hS
          refine wpAnyK_one (i := 11) rfl (by kernel_rfl) rfl ?_
          go_simp
          refine wpAnyK_done (by kernel_rfl) ?_ _
          go_wp2_with fail
          refine (ior_any _ _ _ _ H4.out G4.out EV.out).mono ?_
          rintro e w5 ⟨v, m5, rfl, l5, h5, n5, rfl⟩
          have L5 := Lib.hid l5
          have H5 := Lib.hid h5
          have N5 := Lib.hid n5
          clear l5 h5 n5
          go_wp2_with fail
          go_ret
          exact ⟨x, m4, rfl, H5.out.le L5.out, (N3.out.drew.trans N4.out).trans N5.out, R4.out⟩
  · obtain ⟨b, hev, hb⟩ : ∃ b, ev = .iface 98 (.pointer (some ⟨b, 0, none⟩)) ∧ m2 b = some (.cells #[.int .i64 f1] 102 (0, 0)) := by
      rcases HEV.out with ⟨h, _⟩ | ⟨_, h⟩; exact absurd h h1; exact h
    subst hev
    have HB := Lib.hid hb
    have H1 := Lib.hid h1
    clear hb h1
    go_wp2_with fail
    refine (ior_any _ _ _ _ (H2.out.keep _) G2.out HEV.out).mono ?_
    rintro e w3 ⟨v, m3, rfl, l3, h3, n3, rfl⟩
    have L3 := Lib.hid l3
    have H3 := Lib.hid h3
    have N3 := Lib.hid n3
    clear l3 h3 n3
    go_wp2_with fail
    go_ret
    refine ⟨f1, m3, rfl, H3.out, (N2.out.alloc _).trans N3.out, ?_⟩
    have := HFA.out
    rw [HF.out] at this
    exact this H1.out m3 (Mem.le_trans L2.out L3.out)
end Go.Proofs.YtcdmdkgiabfbeaaDoor

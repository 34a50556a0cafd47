/-
  The questions that the checks ask of a store: there, taken, full; and the checks there.
-/
import Derived.Test.YtcdmdkgiabfbeaaGreatDoorK02
import Derived.LaidEqlPtr
import Derived.WalkKit
namespace Go.Proofs.YtcdmdkgiabfbeaaGreatDoor
open Go.RowKit

/-- A closure's boxes: the store's pointer, a name. -/
def BoxS (m : Mem) (p sb : Nat) : Prop := m p = some (.cells #[.pointer (some ⟨sb, 0, none⟩)] 25 (0, 0))
def BoxN (m : Mem) (p : Nat) (s : ByteArray) : Prop := m p = some (.cells #[.string s] 9 (0, 0))

theorem lookV_none {L : List Ent} {s : ByteArray} (h : getE L s = none) : lookV L s = .pointer none := by simp [lookV, h]
theorem lookV_some {L : List Ent} {s : ByteArray} {e : Ent} (h : getE L s = some e) : lookV L s = .pointer (some ⟨e.fb, 0, none⟩) := by simp [lookV, h]

set_option maxHeartbeats 400000 in
theorem there1_any (p q sb : Nat) (g : G) (s : ByteArray) (w : World) (m : Mem) (hm : Has w m) (hr : SRep m sb g) (hp : BoxS m p sb) (hq : BoxN m q s) :
    Calls Tryz.prog 81 #[.pointer (some ⟨p, 0, none⟩), .pointer (some ⟨q, 0, none⟩)] w (Post w m fun v _ => v = .bool (getE g.L s).isNone) := by
  have c0 : w.cell? ⟨p, 0, none⟩ = some (.pointer (some ⟨sb, 0, none⟩)) := by rw [hm.cell hp]; rfl
  have c1 : w.cell? ⟨q, 0, none⟩ = some (.string s) := by rw [hm.cell hq]; rfl
  have c2 : w.cell? ⟨sb, 0, none⟩ = some (.map (some g.mb)) := by rw [hm.cell hr.store]; rfl
  have hlk : ∀ n, (Instr.lookup 68 (.map (some g.mb)) (.string s) false).run Tryz.prog (w.drewN n) = .ok (lookV g.L s) (w.drewN n) := fun n => run_lookupF g.mb g.clock g.L s _ (hm _ _ hr.map)
  have H := Lib.hid hm
  clear hm hr hp hq
  cases hx : getE g.L s with
  | none =>
    rw [lookV_none hx] at hlk
    clear hx
    go_enter Tryz.func81, Tryz.ntmps81
    go_wp2_with fail
    go_quiet (fail)
    go_wp2_with fail
    go_ret
    exact Post.mk m (Mem.le_refl _) (H.out.drewN _) ((Env.refl w).drewN _) rfl
  | some e =>
    rw [lookV_some hx] at hlk
    clear hx
    go_enter Tryz.func81, Tryz.ntmps81
    go_wp2_with fail
    go_quiet (fail)
    go_wp2_with fail
    go_ret
    exact Post.mk m (Mem.le_refl _) (H.out.drewN _) ((Env.refl w).drewN _) rfl

set_option maxHeartbeats 400000 in
theorem taken1_any (p q sb : Nat) (g : G) (s : ByteArray) (w : World) (m : Mem) (hm : Has w m) (hr : SRep m sb g) (hp : BoxS m p sb) (hq : BoxN m q s) :
    Calls Tryz.prog 47 #[.pointer (some ⟨p, 0, none⟩), .pointer (some ⟨q, 0, none⟩)] w (Post w m fun v _ => v = .bool (getE g.L s).isSome) := by
  have c0 : w.cell? ⟨p, 0, none⟩ = some (.pointer (some ⟨sb, 0, none⟩)) := by rw [hm.cell hp]; rfl
  have c1 : w.cell? ⟨q, 0, none⟩ = some (.string s) := by rw [hm.cell hq]; rfl
  have c2 : w.cell? ⟨sb, 0, none⟩ = some (.map (some g.mb)) := by rw [hm.cell hr.store]; rfl
  have hlk : ∀ n, (Instr.lookup 68 (.map (some g.mb)) (.string s) false).run Tryz.prog (w.drewN n) = .ok (lookV g.L s) (w.drewN n) := fun n => run_lookupF g.mb g.clock g.L s _ (hm _ _ hr.map)
  have H := Lib.hid hm
  clear hm hr hp hq
  cases hx : getE g.L s with
  | none =>
    rw [lookV_none hx] at hlk
    clear hx
    go_enter Tryz.func47, Tryz.ntmps47
    go_wp2_with fail
    go_quiet (fail)
    go_wp2_with fail
    go_ret
    exact Post.mk m (Mem.le_refl _) (H.out.drewN _) ((Env.refl w).drewN _) rfl
  | some e =>
    rw [lookV_some hx] at hlk
    clear hx
    go_enter Tryz.func47, Tryz.ntmps47
    go_wp2_with fail
    go_quiet (fail)
    go_wp2_with fail
    go_ret
    exact Post.mk m (Mem.le_refl _) (H.out.drewN _) ((Env.refl w).drewN _) rfl

theorem enters_there1 : Enters 81 := fun _ _ => by kernel_rfl
theorem enters_taken1 : Enters 47 := fun _ _ => by kernel_rfl

set_option maxHeartbeats 400000 in
theorem there_any (sb : Nat) (g : G) (s : ByteArray) (w : World) (m : Mem) (hm : Has w m) (hr : SRep m sb g) :
    Calls Tryz.prog 45 #[.pointer (some ⟨sb, 0, none⟩), .string s] w (Post w m fun v m' => IsCheck m' v (-38) (getE g.L s).isNone) := by
  have H := Lib.hid hm
  have HR := Lib.hid hr
  clear hm hr
  go_enter Tryz.func45, Tryz.ntmps45
  go_wp2_with fail
  have e1 := H.out.alloc (.cells #[.pointer (some ⟨sb, 0, none⟩)] 25)
  have e2 := e1.alloc (.cells #[.string s] 9)
  have l1 := Mem.le_set m (.cells #[.pointer (some ⟨sb, 0, none⟩)] 25) (H.out.fresh (Nat.le_refl _))
  have l2 := Mem.le_set _ (.cells #[.string s] 9) (e1.fresh (Nat.le_refl _))
  have b1 := l2 _ _ (Mem.set_same m w.heap.size (.cells #[.pointer (some ⟨sb, 0, none⟩)] 25))
  have b2 := Mem.set_same (m.set w.heap.size (.cells #[.pointer (some ⟨sb, 0, none⟩)] 25)) (w.alloc (.cells #[.pointer (some ⟨sb, 0, none⟩)] 25)).heap.size (.cells #[.string s] 9)
  refine (when_any (-38) _ _ (getE g.L s).isNone _ _ e2 ⟨_, _, rfl, enters_there1, fun w1 m1 k h => ?_⟩).mono ?_
  · exact there1_any _ _ sb g s w1 m1 h ((HR.out.le (Mem.le_trans l1 l2)).le k) (k _ _ b1) (k _ _ (by simpa using b2))
  rintro e w2 ⟨v, m2, rfl, k2, h2, n2, hv⟩
  have L1 := Lib.hid (Mem.le_trans l1 l2)
  have L2 := Lib.hid k2
  have H2 := Lib.hid h2
  have N2 := Lib.hid n2
  have HV := Lib.hid hv
  clear l1 l2 b1 b2 e1 e2 k2 h2 n2 hv
  go_wp2_with fail
  go_ret
  exact Post.mk _ (Mem.le_trans L1.out L2.out) H2.out ((((Env.refl w).alloc _).alloc _).trans N2.out) HV.out

/-- shut's question of one open file. -/
def isOf (L : List Ent) (s : ByteArray) : Option Hnd → Bool
  | none => false
  | some h => match getE L s with | some e => decide (h.fb = e.fb) | none => false

set_option maxHeartbeats 400000 in
theorem shut11_any (p q sb : Nat) (g : G) (s : ByteArray) (x : Option Hnd) (w : World) (m : Mem) (hm : Has w m) (hr : SRep m sb g) (hp : BoxS m p sb) (hq : BoxN m q s) (hx : x ∈ g.O) :
    Calls Tryz.prog 84 #[hndV x, .pointer (some ⟨p, 0, none⟩), .pointer (some ⟨q, 0, none⟩)] w (Post w m fun v _ => v = .bool (isOf g.L s x)) := by
  have c0 : w.cell? ⟨p, 0, none⟩ = some (.pointer (some ⟨sb, 0, none⟩)) := by rw [hm.cell hp]; rfl
  have c1 : w.cell? ⟨q, 0, none⟩ = some (.string s) := by rw [hm.cell hq]; rfl
  have c2 : w.cell? ⟨sb, 0, none⟩ = some (.map (some g.mb)) := by rw [hm.cell hr.store]; rfl
  have hlk : ∀ n, (Instr.lookup 68 (.map (some g.mb)) (.string s) false).run Tryz.prog (w.drewN n) = .ok (lookV g.L s) (w.drewN n) := fun n => run_lookupF g.mb g.clock g.L s _ (hm _ _ hr.map)
  have H := Lib.hid hm
  cases x with
  | none =>
    clear hm hr hp hq hx
    simp only [hndV, isOf]
    go_enter Tryz.func84, Tryz.ntmps84
    go_wp2_with fail
    go_quiet (fail)
    go_wp2_with fail
    go_ret
    exact Post.mk m (Mem.le_refl _) (H.out.drewN _) ((Env.refl w).drewN _) rfl
  | some h =>
    have d0 : w.cell? ⟨h.ob, 0, none⟩ = some (.pointer (some ⟨h.fb, 0, none⟩)) := by rw [hm.cell (hr.hnd h hx)]; rfl
    cases hy : getE g.L s with
    | none =>
      rw [lookV_none hy] at hlk
      simp only [hndV, isOf, hy]
      clear hm hr hp hq hx hy
      go_enter Tryz.func84, Tryz.ntmps84
      go_wp2_with fail
      go_quiet (fail)
      go_wp2_with fail
      go_ret
      exact Post.mk m (Mem.le_refl _) (H.out.drewN _) ((Env.refl w).drewN _) rfl
    | some e =>
      rw [lookV_some hy] at hlk
      simp only [hndV, isOf, hy]
      have hem : e ∈ g.L := List.mem_of_find?_eq_some hy
      obtain ⟨d, hd, hd1, hd2⟩ := hr.hof h hx
      have heq : ∀ n, (binOp .eql 67 (.pointer (some ⟨h.fb, 0, none⟩)) (.pointer (some ⟨e.fb, 0, none⟩))).run Tryz.prog (w.drewN n) = .ok (.bool (decide (h.fb = e.fb))) (w.drewN n) := fun n => by
        by_cases hh : h.fb = e.fb
        · rw [hh]
          obtain ⟨j, hj, _⟩ : ∃ j, Tryz.prog.info? 80 = some j ∧ j.size ≠ 0 := by
            have : (Tryz.prog.info? 80).map (·.size) = some 1 := by kernel_rfl
            cases hq : Tryz.prog.info? 80 with
            | none => rw [hq] at this; cases this
            | some j => rw [hq] at this; exact ⟨j, rfl, by simp at this; omega⟩
          rw [run_eql_ptr_same _ _ Tryz.underlying67 hj]
          simp
        · obtain ⟨j, hj, hsz⟩ : ∃ j, Tryz.prog.info? 80 = some j ∧ j.size ≠ 0 := by
            have : (Tryz.prog.info? 80).map (·.size) = some 1 := by kernel_rfl
            cases hq : Tryz.prog.info? 80 with
            | none => rw [hq] at this; cases this
            | some j => rw [hq] at this; exact ⟨j, rfl, by simp at this; omega⟩
          rw [run_eql_ptr_other (a := ⟨h.fb, 0, none⟩) (b := ⟨e.fb, 0, none⟩) _ Tryz.underlying67 hj hsz (by simp) (hm.drewN n _ _ (by rw [← hd1]; exact hr.file d hd)) (hm.drewN n _ _ (hr.file e hem))]
          simp [hh]
      clear hm hr hp hq hx hy hem hd hd1 hd2 d
      go_enter Tryz.func84, Tryz.ntmps84
      go_wp2_with fail
      go_quiet (fail)
      go_wp2_with fail
      go_ret
      exact Post.mk m (Mem.le_refl _) (H.out.drewN _) ((Env.refl w).drewN _) rfl

set_option maxHeartbeats 400000 in
theorem indexOf_any (p q sb : Nat) (g : G) (s : ByteArray) (w : World) (m : Mem) (hm : Has w m) (hr : SRep m sb g) (hp : BoxS m p sb) (hq : BoxN m q s) :
    Calls Tryz.prog 106 #[g.ov, .func (.func 84) #[] #[.pointer (some ⟨p, 0, none⟩), .pointer (some ⟨q, 0, none⟩)]] w
      (Post w m fun v _ => ∃ r : Int, v = .int .i64 r ∧ decide (0 ≤ r) = g.O.any (isOf g.L s)) := by
  obtain ⟨oa, oc, ho, hoc⟩ := hr.opens.lenV
  have hlen := hr.olen
  have H := Lib.hid hm
  have HR := Lib.hid hr
  have HO := Lib.hid ho
  have HP := Lib.hid hp
  have HQ := Lib.hid hq
  rw [ho]
  clear hm hr ho hp hq
  go_enter Tryz.func106, Tryz.ntmps106
  go_wp2_with fail
  go_loopw [8] (fun i wr => ∃ k : Nat, k ≤ g.O.length ∧ i = .int .i64 k ∧ Hid (∃ mr, m.le mr ∧ Has wr mr ∧ Env w wr ∧ (g.O.take k).any (isOf g.L s) = false)) (fun i _ => g.O.length - (intOf i).toNat)
  case atStart => exact ⟨0, Nat.zero_le _, rfl, m, Mem.le_refl _, H.out, Env.refl _, by simp⟩
  case round =>
    obtain ⟨k, hk, rfl, hX⟩ := hrel
    obtain ⟨mr, lr, hwr, nr, ar⟩ := hX.out
    have LR := Lib.hid lr
    have HW := Lib.hid hwr
    have NR := Lib.hid nr
    have AR := Lib.hid ar
    clear lr hwr nr ar hX
    by_cases hlt : k < g.O.length
    · obtain ⟨ob, hoa⟩ : ∃ ob, oa = some ⟨ob, 0, none⟩ := by
        have h1 := HR.out.opens
        rw [HO.out] at h1
        rcases h1.2 with ⟨_, h⟩ | ⟨gg, cap, cur, fz, h, _⟩
        · omega
        · simp only [Value.slice.injEq] at h; exact ⟨gg, h.1⟩
      subst hoa
      have e0 : wr.cell? ⟨ob, k, none⟩ = some (hndV g.O[k]) := by
        have h1 := HR.out.opens
        rw [HO.out] at h1
        rw [(h1.le LR.out).cell HW.out (by omega)]
        simp [hlt]
      have TS : Hid (g.O.take (k + 1) = g.O.take k ++ [g.O[k]]) := by show _ = _; rw [List.take_succ_eq_append_getElem hlt]
      have HMEM := Lib.hid (List.getElem_mem hlt)
      generalize g.O[k] = x at *
      cases hy : isOf g.L s x with
      | true =>
        have HY := Lib.hid hy
        clear hy
        go_wp2_with fail
        refine (shut11_any p q sb g s x wr mr HW.out (HR.out.le LR.out) (LR.out _ _ HP.out) (LR.out _ _ HQ.out) HMEM.out).mono ?_
        rintro e w2 ⟨v, m2, rfl, l2, h2, n2, rfl⟩
        rw [HY.out]
        have L2 := Lib.hid l2
        have H2 := Lib.hid h2
        have N2 := Lib.hid n2
        clear l2 h2 n2
        go_wp2_with fail
        go_ret
        refine Post.mk _ (Mem.le_trans LR.out L2.out) H2.out (NR.out.trans N2.out) ⟨k, rfl, ?_⟩
        rw [show g.O.any (isOf g.L s) = true from List.any_eq_true.2 ⟨x, HMEM.out, HY.out⟩]
        simp
      | false =>
        have HY := Lib.hid hy
        clear hy
        go_wp2_with fail
        refine (shut11_any p q sb g s x wr mr HW.out (HR.out.le LR.out) (LR.out _ _ HP.out) (LR.out _ _ HQ.out) HMEM.out).mono ?_
        rintro e w2 ⟨v, m2, rfl, l2, h2, n2, rfl⟩
        rw [HY.out]
        have L2 := Lib.hid l2
        have H2 := Lib.hid h2
        have N2 := Lib.hid n2
        clear l2 h2 n2
        go_wp2_with fail
        go_roundw
        case rel => exact ⟨k + 1, by omega, by go_num, m2, Mem.le_trans LR.out L2.out, H2.out, NR.out.trans N2.out, by rw [TS.out, List.any_append, AR.out]; simp [HY.out]⟩
        case measure => simp [intOf]; omega
    · have TL := Lib.hid (show g.O.take k = g.O from List.take_of_length_le (by omega))
      go_wp2_with fail
      go_ret
      exact Post.mk mr LR.out HW.out NR.out ⟨-1, rfl, by have := AR.out; rw [TL.out] at this; rw [this]; rfl⟩

set_option maxHeartbeats 400000 in
theorem contains_any (p q sb : Nat) (g : G) (s : ByteArray) (w : World) (m : Mem) (hm : Has w m) (hr : SRep m sb g) (hp : BoxS m p sb) (hq : BoxN m q s) :
    Calls Tryz.prog 83 #[g.ov, .func (.func 84) #[] #[.pointer (some ⟨p, 0, none⟩), .pointer (some ⟨q, 0, none⟩)]] w
      (Post w m fun v _ => v = .bool (g.O.any (isOf g.L s))) := by
  have H := Lib.hid hm
  have HR := Lib.hid hr
  have HP := Lib.hid hp
  have HQ := Lib.hid hq
  clear hm hr hp hq
  go_enter Tryz.func83, Tryz.ntmps83
  go_wp2_with fail
  refine (indexOf_any p q sb g s w m H.out HR.out HP.out HQ.out).mono ?_
  rintro e w2 ⟨v, m2, rfl, l2, h2, n2, r, rfl, hv⟩
  have L2 := Lib.hid l2
  have H2 := Lib.hid h2
  have N2 := Lib.hid n2
  have HV := Lib.hid hv
  clear l2 h2 n2 hv
  go_wp2_with fail
  go_ret
  exact Post.mk _ L2.out H2.out N2.out (by rw [← HV.out]; rfl)

set_option maxHeartbeats 400000 in
theorem shut1_any (p q sb : Nat) (g : G) (s : ByteArray) (w : World) (m : Mem) (hm : Has w m) (hr : SRep m sb g) (hp : BoxS m p sb) (hq : BoxN m q s) :
    Calls Tryz.prog 82 #[.pointer (some ⟨p, 0, none⟩), .pointer (some ⟨q, 0, none⟩)] w (Post w m fun v _ => v = .bool (g.O.any (isOf g.L s))) := by
  have c0 : w.cell? ⟨p, 0, none⟩ = some (.pointer (some ⟨sb, 0, none⟩)) := by rw [hm.cell hp]; rfl
  have c2 : w.cell? ⟨sb, 2, none⟩ = some g.ov := by rw [hm.cell hr.store]; rfl
  have H := Lib.hid hm
  have HR := Lib.hid hr
  have HP := Lib.hid hp
  have HQ := Lib.hid hq
  clear hm hr hp hq
  go_enter Tryz.func82, Tryz.ntmps82
  go_wp2_with fail
  refine (contains_any p q sb g s w m H.out HR.out HP.out HQ.out).mono ?_
  rintro e w2 ⟨v, m2, rfl, l2, h2, n2, rfl⟩
  have L2 := Lib.hid l2
  have H2 := Lib.hid h2
  have N2 := Lib.hid n2
  clear l2 h2 n2
  go_wp2_with fail
  go_ret
  exact Post.mk _ L2.out H2.out N2.out rfl

theorem enters_shut1 : Enters 82 := fun _ _ => by kernel_rfl

set_option maxHeartbeats 400000 in
theorem shut_any (sb : Nat) (g : G) (s : ByteArray) (w : World) (m : Mem) (hm : Has w m) (hr : SRep m sb g) :
    Calls Tryz.prog 46 #[.pointer (some ⟨sb, 0, none⟩), .string s] w (Post w m fun v m' => IsCheck m' v (-69) (g.O.any (isOf g.L s))) := by
  have H := Lib.hid hm
  have HR := Lib.hid hr
  clear hm hr
  go_enter Tryz.func46, Tryz.ntmps46
  go_wp2_with fail
  have e1 := H.out.alloc (.cells #[.pointer (some ⟨sb, 0, none⟩)] 25)
  have e2 := e1.alloc (.cells #[.string s] 9)
  have l1 := Mem.le_set m (.cells #[.pointer (some ⟨sb, 0, none⟩)] 25) (H.out.fresh (Nat.le_refl _))
  have l2 := Mem.le_set _ (.cells #[.string s] 9) (e1.fresh (Nat.le_refl _))
  have b1 := l2 _ _ (Mem.set_same m w.heap.size (.cells #[.pointer (some ⟨sb, 0, none⟩)] 25))
  have b2 := Mem.set_same (m.set w.heap.size (.cells #[.pointer (some ⟨sb, 0, none⟩)] 25)) (w.alloc (.cells #[.pointer (some ⟨sb, 0, none⟩)] 25)).heap.size (.cells #[.string s] 9)
  refine (when_any (-69) _ _ (g.O.any (isOf g.L s)) _ _ e2 ⟨_, _, rfl, enters_shut1, fun w1 m1 k h => ?_⟩).mono ?_
  · exact shut1_any _ _ sb g s w1 m1 h ((HR.out.le (Mem.le_trans l1 l2)).le k) (k _ _ b1) (k _ _ (by simpa using b2))
  rintro e w2 ⟨v, m2, rfl, k2, h2, n2, hv⟩
  have L1 := Lib.hid (Mem.le_trans l1 l2)
  have L2 := Lib.hid k2
  have H2 := Lib.hid h2
  have N2 := Lib.hid n2
  have HV := Lib.hid hv
  clear l1 l2 b1 b2 e1 e2 k2 h2 n2 hv
  go_wp2_with fail
  go_ret
  exact Post.mk _ (Mem.le_trans L1.out L2.out) H2.out ((((Env.refl w).alloc _).alloc _).trans N2.out) HV.out

def fullB (O : List (Option Hnd)) : Bool := decide (32 ≤ (nOpen O : Int))

set_option maxHeartbeats 400000 in
theorem ofull1_any (p sb : Nat) (g : G) (w : World) (m : Mem) (hm : Has w m) (hr : SRep m sb g) (hp : BoxS m p sb) :
    Calls Tryz.prog 73 #[.pointer (some ⟨p, 0, none⟩)] w (Post w m fun v _ => v = .bool (fullB g.O)) := by
  have c0 : w.cell? ⟨p, 0, none⟩ = some (.pointer (some ⟨sb, 0, none⟩)) := by rw [hm.cell hp]; rfl
  have H := Lib.hid hm
  have HR := Lib.hid hr
  clear hm hr hp
  go_enter Tryz.func73, Tryz.ntmps73
  go_wp2_with fail
  refine (many_any sb g w m H.out HR.out).mono ?_
  rintro e w2 ⟨v, m2, rfl, l2, h2, n2, rfl⟩
  have L2 := Lib.hid l2
  have H2 := Lib.hid h2
  have N2 := Lib.hid n2
  clear l2 h2 n2
  go_wp2_with fail
  go_ret
  exact Post.mk _ L2.out H2.out N2.out rfl
theorem enters_ofull1 : Enters 73 := fun _ _ => by kernel_rfl
end Go.Proofs.YtcdmdkgiabfbeaaGreatDoor

/-
  The walk's laws for an operation of which one knows what its run comes to: a builtin of two arguments, a map's update; in a plain region and at a step of one that draws its order.
-/
namespace Go.Proofs.YtcdmdkgiabfbeaaGreatDoor
open Go.RowKit

section
variable {P : Program} {o : Oper} {a : Act} {w : World} {K : Act → World → Prop} {Q : Exit → Act → World → Prop} {ops : Array Oper} {rest : List Oper}

theorem wp_b2 (b : Builtin) (F : Array TypeId → TypeId → Array Value → Sem Value) (hb : ∀ t ty c x, builtin b t ty c x = (do pure (Next.value (← F t ty x)))) (s x : Operand) (t u : TypeId)
    (ho : o.op = .call { callee := .builtin b, args := #[s, x], argTypes := #[t, u] }) {vs vx v' : Value} {w' : World} (hs : a.eval s = vs) (hx : a.eval x = vx)
    (hrun : (F #[t, u] o.type #[vs, vx]).run P w = .ok v' w') (h : K (a.put o.dst v') w') : o.wp P a w K Q := by
  unfold Oper.wp execOp
  simp only [ho, resolve, invoke, hb, Sem.run_bind, Sem.run_pure, Result.andThen_ok, List.map_toArray, List.map_cons, List.map_nil, hs, hx, hrun]
  exact h

theorem wpList_b2 (hgd : o.guard = none) (b : Builtin) (F : Array TypeId → TypeId → Array Value → Sem Value) (hb : ∀ t ty c x, builtin b t ty c x = (do pure (Next.value (← F t ty x)))) (s x : Operand) (t u : TypeId)
    (ho : o.op = .call { callee := .builtin b, args := #[s, x], argTypes := #[t, u] }) {vs vx v' : Value} {w' : World} (hs : a.eval s = vs) (hx : a.eval x = vx)
    (hrun : (F #[t, u] o.type #[vs, vx]).run P w = .ok v' w') (h : wpList P ops Q rest (a.put o.dst v') w') : wpList P ops Q (o :: rest) a w :=
  wpList_plain hgd fun _ hK => wp_b2 b F hb s x t u ho hs hx hrun (hK _ _ h)

theorem step_b2 {E : Prop} (hgd : o.guard = none) (b : Builtin) (F : Array TypeId → TypeId → Array Value → Sem Value) (hb : ∀ t ty c x, builtin b t ty c x = (do pure (Next.value (← F t ty x)))) (s x : Operand) (t u : TypeId)
    (ho : o.op = .call { callee := .builtin b, args := #[s, x], argTypes := #[t, u] }) {vs vx v' : Value} {w' : World} (hs : a.eval s = vs) (hx : a.eval x = vx)
    (hrun : (F #[t, u] o.type #[vs, vx]).run P w = .ok v' w') (h : K (a.put o.dst v') w') : if Region.wanted o (yielded ops a.tmps) = true then Oper.wp P o a w K Q else E := by
  have hw : Region.wanted o (yielded ops a.tmps) = true := by simp [Region.wanted, hgd]
  rw [if_pos hw]
  exact wp_b2 b F hb s x t u ho hs hx hrun h

theorem wp_upd (T : TypeId) (mo ko xo : Operand) (ho : o.op = .mapUpdate T mo ko xo) {vm vk vx : Value} {w' : World} (hm : a.eval mo = vm) (hk : a.eval ko = vk) (hx : a.eval xo = vx)
    (hrun : (Instr.mapUpdate T vm vk vx).run P w = .ok () w') (h : K (a.put o.dst undef) w') : o.wp P a w K Q := by
  unfold Oper.wp execOp
  simp only [ho, Sem.run_bind, Sem.run_pure, Result.andThen_ok, hm, hk, hx, hrun]
  exact h

theorem wpList_upd (hgd : o.guard = none) (T : TypeId) (mo ko xo : Operand) (ho : o.op = .mapUpdate T mo ko xo) {vm vk vx : Value} {w' : World} (hm : a.eval mo = vm) (hk : a.eval ko = vk) (hx : a.eval xo = vx)
    (hrun : (Instr.mapUpdate T vm vk vx).run P w = .ok () w') (h : wpList P ops Q rest (a.put o.dst undef) w') : wpList P ops Q (o :: rest) a w :=
  wpList_plain hgd fun _ hK => wp_upd T mo ko xo ho hm hk hx hrun (hK _ _ h)

theorem step_upd {E : Prop} (hgd : o.guard = none) (T : TypeId) (mo ko xo : Operand) (ho : o.op = .mapUpdate T mo ko xo) {vm vk vx : Value} {w' : World} (hm : a.eval mo = vm) (hk : a.eval ko = vk) (hx : a.eval xo = vx)
    (hrun : (Instr.mapUpdate T vm vk vx).run P w = .ok () w') (h : K (a.put o.dst undef) w') : if Region.wanted o (yielded ops a.tmps) = true then Oper.wp P o a w K Q else E := by
  have hw : Region.wanted o (yielded ops a.tmps) = true := by simp [Region.wanted, hgd]
  rw [if_pos hw]
  exact wp_upd T mo ko xo ho hm hk hx hrun h
end
end Go.Proofs.YtcdmdkgiabfbeaaGreatDoor

/-
  add opens a file: the first free number, or one more.
-/
namespace Go.Proofs.YtcdmdkgiabfbeaaGreatDoor
open Go.RowKit

/-- The blocks that a store is made of. -/
def FP (sb : Nat) (g : G) (b : Nat) : Prop :=
  b = sb ∨ b = g.mb ∨ (∃ e ∈ g.L, b = e.fb ∨ e.bv.ownBlock = some b) ∨ g.fv.ownBlock = some b ∨ g.ov.ownBlock = some b ∨ ∃ h, some h ∈ g.O ∧ b = h.ob

/-- What an operation leaves as it was: all that is known of other blocks; a store's new blocks were not known. -/
structure Fr (m m' : Mem) (P P' : Nat → Prop) : Prop where
  keep : ∀ b o, m b = some o → ¬ P b → m' b = some o
  new : ∀ b, P' b → P b ∨ m b = none

theorem Fr.refl (m : Mem) (P : Nat → Prop) : Fr m m P P := ⟨fun _ _ h _ => h, fun _ h => .inl h⟩
theorem Fr.trans {m m' m'' : Mem} {P P' P'' : Nat → Prop} (h : Fr m m' P P') (k : Fr m' m'' P' P'') : Fr m m'' P P'' := by
  refine ⟨fun b o hb hp => k.keep b o (h.keep b o hb hp) fun hp' => ?_, fun b hb => ?_⟩
  · rcases h.new b hp' with x | x
    · exact hp x
    · rw [hb] at x; cases x
  · rcases k.new b hb with x | x
    · exact h.new b x
    · by_cases hp : P b
      · exact .inl hp
      · cases hm : m b with
        | none => exact .inr rfl
        | some o => rw [h.keep b o hm hp] at x; cases x
theorem Fr.le {m m' n : Mem} {P P' : Nat → Prop} (h : Fr m m' P P') (k : m'.le n) : Fr m n P P' := ⟨fun _ _ hb hp => k _ _ (h.keep _ _ hb hp), h.new⟩
theorem Fr.of_le {m m' : Mem} (k : m.le m') (P : Nat → Prop) : Fr m m' P P := ⟨fun _ _ hb _ => k _ _ hb, fun _ h => .inl h⟩
theorem Fr.set {m : Mem} {P : Nat → Prop} {b : Nat} (o : Obj) (hb : P b ∨ m b = none) : Fr m (m.set b o) P P := by
  refine ⟨fun c x hc hp => ?_, fun _ h => .inl h⟩
  rw [Mem.set_ne]
  · exact hc
  · intro e; subst e
    rcases hb with h | h
    · exact hp h
    · rw [h] at hc; cases hc
theorem Fr.mono {m m' : Mem} {P P' Q : Nat → Prop} (h : Fr m m' P P') (k : ∀ b, Q b → P b ∨ P' b ∨ m b = none) : Fr m m' P Q :=
  ⟨h.keep, fun b hb => by rcases k b hb with x | x | x; exact .inl x; exact h.new b x; exact .inr x⟩

def idxI : Option Nat → Int
  | some i => i
  | none => -1
def firstNone (O : List (Option Hnd)) : Option Nat := O.findIdx? Option.isNone

theorem nilLeft (a : Addr) (w : World) : (binOp .eql 83 (.pointer none) (.pointer (some a))).run Tryz.prog w = .ok (.bool false) w := by kernel_rfl

set_option maxHeartbeats 400000 in
theorem index_any (sb : Nat) (g : G) (w : World) (m : Mem) (hm : Has w m) (hr : SRep m sb g) :
    Calls Tryz.prog 80 #[g.ov, .pointer none] w
      fun e w' => e = .returned (.int .i64 (idxI (firstNone g.O))) ∧ w' = w := by
  obtain ⟨oa, oc, ho, hoc⟩ := hr.opens.lenV
  have hlen := hr.olen
  have H := Lib.hid hm
  have HR := Lib.hid hr
  have HO := Lib.hid ho
  rw [ho]
  clear hm hr ho
  go_enter Tryz.func80, Tryz.ntmps80
  go_wp2_with fail
  go_loop [8] (fun i => ∃ k : Nat, k ≤ g.O.length ∧ i = .int .i64 k ∧ Hid (∀ j (hj : j < g.O.length), j < k → g.O[j].isNone = false)) (fun i => g.O.length - (intOf i).toNat)
  case atStart => exact ⟨0, Nat.zero_le _, rfl, fun j _ hj => by omega⟩
  case round =>
    obtain ⟨k, hk, rfl, HN⟩ := hrel
    by_cases hlt : k < g.O.length
    · obtain ⟨ob, hoa⟩ : ∃ ob, oa = some ⟨ob, 0, none⟩ := by
        have h1 := HR.out.opens
        rw [HO.out] at h1
        rcases h1.2 with ⟨_, h⟩ | ⟨gg, cap, cur, fz, h, _⟩
        · omega
        · simp only [Value.slice.injEq] at h; exact ⟨gg, h.1⟩
      subst hoa
      have e0 : w.cell? ⟨ob, k, none⟩ = some (hndV g.O[k]) := by
        have h1 := HR.out.opens
        rw [HO.out] at h1
        rw [h1.cell H.out (by omega)]
        simp [hlt]
      cases hx : g.O[k] with
      | none =>
        rw [hx] at e0
        have HX := Lib.hid hx
        clear hx
        simp only [hndV] at e0
        have FN : Hid (firstNone g.O = some k) := by
          show _ = _
          unfold firstNone
          rw [List.findIdx?_eq_some_iff_getElem]
          exact ⟨hlt, by rw [HX.out]; rfl, fun j hj => by have := HN.out j (by omega) hj; rw [this]; simp⟩
        go_wp2_with fail
        go_ret
        exact ⟨by rw [FN.out]; rfl, rfl⟩
      | some h =>
        rw [hx] at e0
        have HX := Lib.hid hx
        clear hx
        simp only [hndV] at e0
        have hnl := nilLeft ⟨h.ob, 0, none⟩
        go_wp2_with fail
        go_round
        case rel =>
          refine ⟨k + 1, by omega, by go_num, fun j hj hjk => ?_⟩
          rcases Nat.lt_or_ge j k with h | h
          · exact HN.out j hj h
          · have : j = k := by omega
            subst this; rw [HX.out]; rfl
        case measure => simp [intOf]; omega
    · have FN : Hid (firstNone g.O = none) := by
        show _ = _
        unfold firstNone
        rw [List.findIdx?_eq_none_iff]
        intro x hx
        obtain ⟨j, hj, rfl⟩ := List.getElem_of_mem hx
        exact HN.out j hj (by omega)
      go_wp2_with fail
      go_ret
      exact ⟨by rw [FN.out]; rfl, rfl⟩

theorem Row.ty {m : Mem} {v : Value} {e : TypeId} {k n : Nat} {xs : List Value} (h : Row m v e k n xs) {b : Nat} (hb : v.ownBlock = some b) : ∃ cur fz, m b = some (.cells cur e fz) := by
  obtain ⟨_, cur, fz, _, hg, _⟩ := h.own hb
  exact ⟨cur, fz, hg⟩

/-- A row stays where its block does. -/
theorem Row.keep {m m' : Mem} {v : Value} {e : TypeId} {k n : Nat} {xs : List Value} (h : Row m v e k n xs) (hk : ∀ b o, v.ownBlock = some b → m b = some o → m' b = some o) : Row m' v e k n xs := by
  obtain ⟨h1, h2 | ⟨g, cap, cur, fz, hv, hg, r⟩⟩ := h
  · exact ⟨h1, .inl h2⟩
  · exact ⟨h1, .inr ⟨g, cap, cur, fz, hv, hk _ _ (by rw [hv]; rfl) hg, r⟩⟩

/-- A store whose open files are others, the rest as it was. -/
theorem SRep.reopen {m m' : Mem} {sb : Nat} {g : G} (r : SRep m sb g) (ov' : Value) (O' : List (Option Hnd))
    (hs : m' sb = some (storeObj { g with ov := ov', O := O' }))
    (hkeep : ∀ b o, m b = some o → b ≠ sb → g.ov.ownBlock ≠ some b → m' b = some o ∨ ∃ h, some h ∈ g.O ∧ b = h.ob)
    (hrow : Row m' ov' 83 1 O'.length (O'.map hndV))
    (hh : ∀ h, some h ∈ O' → m' h.ob = some (hndObj h) ∧ (∃ e ∈ g.L, e.fb = h.fb ∧ e.name = h.name) ∧ h.pos ≤ 262144)
    (hobs : ∀ (i j : Nat) (h k : Hnd), O'[i]? = some (some h) → O'[j]? = some (some k) → h.ob = k.ob → i = j) (holen : O'.length ≤ 32) :
    SRep m' sb { g with ov := ov', O := O' } := by
  have key : ∀ {b : Nat} {o : Obj}, m b = some o → o ≠ storeObj g → (∀ cur fz, o ≠ .cells cur 83 fz) → (∀ h, o ≠ hndObj h) → m' b = some o := fun {b o} hb h1 h2 h3 => by
    rcases hkeep b o hb (fun e => by subst e; rw [r.store] at hb; exact h1 (Option.some.inj hb).symm) (fun e => by
      obtain ⟨cur, fz, hc⟩ := r.opens.ty e; rw [hc] at hb; exact h2 _ _ (Option.some.inj hb).symm) with x | ⟨h, hm, e⟩
    · exact x
    · subst e; rw [r.hnd h hm] at hb; exact absurd (Option.some.inj hb).symm (h3 h)
  exact { r with
    store := hs
    map := key r.map (by simp [mapObj, storeObj]) (by simp [mapObj]) (by simp [mapObj, hndObj])
    file := fun e he => key (r.file e he) (by simp [fileObj, storeObj]) (by simp [fileObj]) (by simp [fileObj, hndObj])
    row := fun e he => (r.row e he).keep fun b o hb hm => by
      obtain ⟨cur, fz, hc⟩ := (r.row e he).ty hb
      rw [hm] at hc
      obtain rfl := Option.some.inj hc
      exact key hm (by simp [storeObj]) (by simp) (by simp [hndObj])
    fails := Row.keep r.fails fun b o hb hm => by
      obtain ⟨cur, fz, hc⟩ := Row.ty r.fails hb
      rw [hm] at hc
      obtain rfl := Option.some.inj hc
      exact key hm (by simp [storeObj]) (by simp) (by simp [hndObj])
    opens := hrow
    hnd := fun h hm => (hh h hm).1
    hof := fun h hm => (hh h hm).2.1
    obs := hobs
    olen := holen
    pos := fun h hm => (hh h hm).2.2 }

def addO (O : List (Option Hnd)) (h : Hnd) : List (Option Hnd) := match firstNone O with | some i => O.set i (some h) | none => O ++ [some h]
def addI (O : List (Option Hnd)) : Nat := match firstNone O with | some i => i | none => O.length

theorem fullB_false {O : List (Option Hnd)} (h : fullB O = false) (hn : firstNone O = none) : O.length < 32 := by
  have h1 : ¬ (32 ≤ (nOpen O : Int)) := of_decide_eq_false h
  have h2 : nOpen O = O.length := by
    unfold nOpen
    rw [List.filter_eq_self.2]
    intro x hx
    have := (List.findIdx?_eq_none_iff.1 hn) x hx
    cases x <;> simp_all
  omega

theorem firstNone_lt {O : List (Option Hnd)} {i : Nat} (h : firstNone O = some i) : ∃ hi : i < O.length, O[i] = none := by
  unfold firstNone at h
  rw [List.findIdx?_eq_some_iff_getElem] at h
  obtain ⟨hi, h1, _⟩ := h
  exact ⟨hi, by simpa using h1⟩

theorem infoO : (Tryz.prog.info? 83).map (fun i => (i.zero, i.size, i.bytes)) = some (some (.pointer none), 1, 8) := by kernel_rfl

set_option maxHeartbeats 1000000 in
theorem add_any (sb : Nat) (g : G) (e : Ent) (mode : Int) (w : World) (m : Mem) (hm : Has w m) (hr : SRep m sb g) (he : e ∈ g.L) (hf : fullB g.O = false) :
    Calls Tryz.prog 33 #[.pointer (some ⟨sb, 0, none⟩), .pointer (some ⟨e.fb, 0, none⟩), .int .i64 mode] w
      fun ev w' => ∃ ob ov' m', ev = .returned (.int .i64 ((addI g.O : Int) + 1)) ∧ m ob = none ∧ Has w' m' ∧ Env w w' ∧
        SRep m' sb { g with ov := ov', O := addO g.O ⟨ob, e.fb, e.name, mode, 0⟩ } ∧
        Fr m m' (FP sb g) (FP sb { g with ov := ov', O := addO g.O ⟨ob, e.fb, e.name, mode, 0⟩ }) := by
  have hfresh : m w.heap.size = none := hm.fresh (Nat.le_refl _)
  have hlt := hm.lt hr.store
  have hne : sb ≠ w.heap.size := by omega
  have c2 : w.cell? ⟨sb, 2, none⟩ = some g.ov := by rw [hm.cell hr.store]; rfl
  have f2 : w.frozen? ⟨sb, 2, none⟩ = false := hm.froz hr.store
  have H := Lib.hid hm
  have HR := Lib.hid hr
  have HF := Lib.hid hf
  have HFR := Lib.hid hfresh
  have HE := Lib.hid he
  clear hm hr hf hfresh he
  have h1 := H.out.alloc (.cells #[.pointer (some ⟨e.fb, 0, none⟩), .int .i64 mode, .int .i64 0] 88)
  have l1 := Mem.le_set m (.cells #[.pointer (some ⟨e.fb, 0, none⟩), .int .i64 mode, .int .i64 0] 88) HFR.out
  have H1 := Lib.hid h1
  have L1 := Lib.hid l1
  have R1 := Lib.hid (HR.out.le l1)
  clear h1 l1
  cases hfn : firstNone g.O with
  | some i =>
    have FN := Lib.hid hfn
    clear hfn
    obtain ⟨hi, hin⟩ := firstNone_lt FN.out
    obtain ⟨ovb, oc, cur, fz, hov, hob, hth, _, _, hcs, htk⟩ : ∃ ovb oc cur fz, g.ov = .slice (some ⟨ovb, 0, none⟩) g.O.length oc ∧ m ovb = some (.cells cur 83 fz) ∧ Thaw cur fz ∧ g.O.length ≤ oc ∧ oc ≤ maxLen ∧ oc * 1 ≤ cur.size ∧ cur.toList.take (g.O.length * 1) = g.O.map hndV := by
      rcases HR.out.opens.2 with ⟨_, h⟩ | h
      · omega
      · exact h
    have hnb : ovb ≠ w.heap.size := by intro e; subst e; have := HFR.out; rw [hob] at this; cases this
    have hns : ovb ≠ sb := by intro e; subst e; have := HR.out.store; rw [hob] at this; simp [storeObj] at this
    have hobl : ovb < w.heap.size := H.out.lt hob
    have hle : g.O.length ≤ 32 := HR.out.olen
    have hlc : g.O.length ≤ cur.size := by omega
    have k0 : ∃ u, w.cell? ⟨ovb, i, none⟩ = some u := ⟨cur[i], by rw [H.out.cell hob]; simp⟩
    obtain ⟨u, k0⟩ := k0
    have k1 : w.frozen? ⟨ovb, i, none⟩ = false := by simp only [World.frozen?, H.out _ _ hob]; exact hth i (by omega)
    have IX := index_any sb g _ _ H1.out R1.out
    rw [FN.out, hov] at IX
    rw [hov] at c2
    have HOV := Lib.hid hov
    have HOB := Lib.hid hob
    have HTH := Lib.hid hth
    have HTK := Lib.hid htk
    have HIX := Lib.hid IX
    have HIN := Lib.hid hin
    clear hov hob hth htk IX hin
    go_enter Tryz.func33, Tryz.ntmps33
    go_wp2_with fail
    refine HIX.out.mono ?_
    rintro ev w1 ⟨rfl, hw⟩
    have h1w := H1.out
    have e1w := (Env.refl w).alloc (.cells #[.pointer (some ⟨e.fb, 0, none⟩), .int .i64 mode, .int .i64 0] 88)
    rw [← hw] at h1w e1w
    have H1W := Lib.hid h1w
    have E1W := Lib.hid e1w
    have hm1 : (m.set w.heap.size (.cells #[.pointer (some ⟨e.fb, 0, none⟩), .int .i64 mode, .int .i64 0] 88)) ovb = some (.cells cur 83 fz) := L1.out _ _ HOB.out
    have c2' : w1.cell? ⟨sb, 2, none⟩ = some (Value.slice (some { block := ovb, off := 0 }) g.O.length oc) := by rw [h1w.cell (L1.out _ _ HR.out.store), HOV.out]; rfl
    have k0' : w1.cell? ⟨ovb, i, none⟩ = some cur[i] := by rw [h1w.cell hm1]; simp
    have k1' : w1.frozen? ⟨ovb, i, none⟩ = false := by simp only [World.frozen?, h1w _ _ hm1]; exact HTH.out i (by omega)
    have HM1 := Lib.hid hm1
    clear hw h1w e1w hm1 c2 f2 k0 k1
    simp only [idxI]
    go_wp2_with fail
    go_ret
    have hm1 := HM1.out
    have hI : addI g.O = i := by unfold addI; rw [FN.out]
    have hO : addO g.O ⟨w.heap.size, e.fb, e.name, mode, 0⟩ = g.O.set i (some ⟨w.heap.size, e.fb, e.name, mode, 0⟩) := by unfold addO; rw [FN.out]
    have k := H1W.out.store (off := i) hm1 (.pointer (some ⟨w.heap.size, 0, none⟩))
    have hobk : ∀ h, some h ∈ g.O → h.ob ≠ w.heap.size := fun h hh e => by have := HR.out.hnd h hh; rw [e, HFR.out] at this; cases this
    have hobo : ∀ h, some h ∈ g.O → h.ob ≠ ovb := fun h hh e => by have := HR.out.hnd h hh; rw [e, HOB.out] at this; simp [hndObj] at this
    refine ⟨w.heap.size, g.ov, _, by rw [hI]; rfl, HFR.out, k, E1W.out.setCell _ _, ?_, ?_⟩
    · rw [hO]
      refine HR.out.reopen _ _ ?_ ?_ ?_ ?_ ?_ ?_
      · rw [Mem.set_ne _ _ (Ne.symm hns), Mem.set_ne _ _ hne]; exact HR.out.store
      · intro b o hb hbs hbo
        refine .inl ?_
        rw [Mem.set_ne _ _ (by intro e; subst e; rw [HOV.out] at hbo; exact hbo rfl)]
        exact L1.out _ _ hb
      · refine ⟨by simp, .inr ⟨ovb, oc, _, fz, by rw [HOV.out]; simp, Mem.set_same _ _ _, HTH.out.size (by simp), by simp; omega, by assumption, by simpa using hcs, ?_⟩⟩
        rw [Array.toList_setIfInBounds, List.take_set]
        have := HTK.out
        simp only [Nat.mul_one, List.length_set] at this ⊢
        rw [this, List.map_set]
        rfl
      · intro h hh
        rcases List.mem_or_eq_of_mem_set hh with hh | hh
        · refine ⟨?_, HR.out.hof h hh, HR.out.pos h hh⟩
          rw [Mem.set_ne _ _ (hobo h hh), Mem.set_ne _ _ (hobk h hh)]; exact HR.out.hnd h hh
        · obtain rfl := Option.some.inj hh
          refine ⟨?_, ⟨e, HE.out, rfl, rfl⟩, by simp⟩
          rw [Mem.set_ne _ _ (Ne.symm hnb), Mem.set_same]; rfl
      · intro i1 j1 h1 k1 hi1 hj1 he1
        rw [List.getElem?_set] at hi1 hj1
        split at hi1 <;> split at hj1
        · omega
        · simp only [Option.some.injEq] at hi1
          subst hi1
          exact absurd he1.symm (hobk k1 (List.mem_of_getElem? hj1))
        · simp only [Option.some.injEq] at hj1
          subst hj1
          exact absurd he1 (hobk h1 (List.mem_of_getElem? hi1))
        · exact HR.out.obs _ _ _ _ hi1 hj1 he1
      · simpa using hle
    · refine (((Fr.of_le L1.out (FP sb g)).trans (Fr.set _ (.inl ?_)))).mono ?_
      · exact .inr (.inr (.inr (.inr (.inl (by rw [HOV.out]; rfl)))))
      · rintro b (h | h | h | h | h | ⟨h, hh, rfl⟩)
        · exact .inl (.inl h)
        · exact .inl (.inr (.inl h))
        · exact .inl (.inr (.inr (.inl h)))
        · exact .inl (.inr (.inr (.inr (.inl h))))
        · exact .inl (.inr (.inr (.inr (.inr (.inl h)))))
        · rw [hO] at hh
          rcases List.mem_or_eq_of_mem_set hh with hh | hh
          · exact .inl (.inr (.inr (.inr (.inr (.inr ⟨h, hh, rfl⟩)))))
          · obtain rfl := Option.some.inj hh
            exact .inr (.inr HFR.out)
  | none =>
    have FN := Lib.hid hfn
    clear hfn
    have hle := fullB_false HF.out FN.out
    have IX := index_any sb g _ _ H1.out R1.out
    rw [FN.out] at IX
    have HIX := Lib.hid IX
    clear IX
    obtain ⟨i0, hi, hz0, hz1, hz2⟩ := info_parts infoO
    go_enter Tryz.func33, Tryz.ntmps33
    go_wp2_with fail
    refine HIX.out.mono ?_
    rintro ev w1 ⟨rfl, hw⟩
    have h1w := H1.out
    have e1w := (Env.refl w).alloc (.cells #[.pointer (some ⟨e.fb, 0, none⟩), .int .i64 mode, .int .i64 0] 88)
    rw [← hw] at h1w e1w
    have hs1 := h1w.lt (L1.out _ _ HR.out.store)
    have hfr2 := h1w.fresh (Nat.le_refl _)
    have l2 := Mem.le_set _ (.cells #[.pointer (some ⟨w.heap.size, 0, none⟩)] 83) hfr2
    have h2w := h1w.alloc (.cells #[.pointer (some ⟨w.heap.size, 0, none⟩)] 83)
    obtain ⟨v', w2, m2, hrun, he2, hh2, hrow2, hgr2⟩ := run_append_row (P := Tryz.prog) 69 69 83 i0 (.pointer none) 1 8 Tryz.underlying69 hi hz0 hz1 hz2 rfl (by decide)
      h2w g.ov g.O.length (g.O.map hndV) ((R1.out.le l2).opens) w1.heap.size 0 1 1 [.pointer (some ⟨w.heap.size, 0, none⟩)] rfl
      (Cells.whole (Mem.set_same _ _ _) rfl) (by simp [Value.oneCell']) (by decide) (by omega) (by omega)
    have hsb2 : m2 sb = some (storeObj g) := hgr2.keep (l2 _ _ (L1.out _ _ HR.out.store)) (fun e => by
      obtain ⟨cur, fz, hc⟩ := HR.out.opens.ty e; rw [HR.out.store] at hc; simp [storeObj] at hc)
    obtain ⟨va, vc, rfl, _⟩ := hrow2.lenV
    have d2 : w1.cell? ⟨sb, 2, none⟩ = some g.ov := by rw [h1w.cell (L1.out _ _ HR.out.store)]; rfl
    have d3 : w2.cell? ⟨sb, 2, none⟩ = some g.ov := by rw [hh2.cell hsb2]; rfl
    have d4 : w2.frozen? ⟨sb, 2, none⟩ = false := hh2.froz hsb2
    have H1W := Lib.hid h1w
    have E1W := Lib.hid e1w
    have L2 := Lib.hid l2
    have HFR2 := Lib.hid hfr2
    have HE2 := Lib.hid he2
    have HH2 := Lib.hid hh2
    have HROW := Lib.hid hrow2
    have HGR := Lib.hid hgr2
    have HSB2 := Lib.hid hsb2
    clear hw h1w e1w l2 h2w hfr2 he2 hh2 hrow2 hgr2 hsb2 hi hz0 hz1 hz2 c2 f2
    simp only [idxI]
    go_wp2_with (at_builtin; refine wpList_b2 rfl .append Builtin.append_ (fun _ _ _ _ => rfl) _ _ _ _ rfl rfl rfl hrun ?_)
    go_ret
    have hI : addI g.O = g.O.length := by unfold addI; rw [FN.out]
    have hO : addO g.O ⟨w.heap.size, e.fb, e.name, mode, 0⟩ = g.O ++ [some ⟨w.heap.size, e.fb, e.name, mode, 0⟩] := by unfold addO; rw [FN.out]
    have hobk : ∀ h, some h ∈ g.O → h.ob ≠ w.heap.size := fun h hh e => by have := HR.out.hnd h hh; rw [e, HFR.out] at this; cases this
    have k := HH2.out.storeTo (off := 2) (c' := #[.map (some g.mb), g.fv, .slice va (g.O.length + 1) vc, .int .i64 g.n]) HSB2.out (.slice va (g.O.length + 1) vc) (by simp)
    have m1s : ∀ b o, m b = some o → b ≠ sb → g.ov.ownBlock ≠ some b → (m2.set sb (.cells #[.map (some g.mb), g.fv, .slice va (g.O.length + 1) vc, .int .i64 g.n] 71 (0, 0))) b = some o := fun b o hb hbs hbo => by
      rw [Mem.set_ne _ _ hbs]
      exact HGR.out.keep (L2.out _ _ (L1.out _ _ hb)) hbo
    have hnew : (m2.set sb (.cells #[.map (some g.mb), g.fv, .slice va (g.O.length + 1) vc, .int .i64 g.n] 71 (0, 0))) w.heap.size = some (hndObj ⟨w.heap.size, e.fb, e.name, mode, 0⟩) := by
      rw [Mem.set_ne _ _ (Ne.symm hne)]
      exact HGR.out.keep (L2.out _ _ (Mem.set_same _ _ _)) (fun e => by obtain ⟨cur, fz, hc⟩ := HR.out.opens.ty e; rw [HFR.out] at hc; cases hc)
    have hvs : (Value.slice va (g.O.length + 1) vc).ownBlock ≠ some sb := fun e => by
      obtain ⟨cur, fz, hc⟩ := HROW.out.ty e; rw [HSB2.out] at hc; simp [storeObj] at hc
    refine ⟨w.heap.size, .slice va (g.O.length + 1) vc, _, by rw [hI]; rfl, HFR.out, k, ((E1W.out.alloc _).trans HE2.out).setCell _ _, ?_, ?_⟩
    · rw [hO]
      refine HR.out.reopen _ _ (Mem.set_same _ _ _) (fun b o hb h1 h2 => .inl (m1s b o hb h1 h2)) ?_ ?_ ?_ ?_
      · have := HROW.out.set_other (.cells #[.map (some g.mb), g.fv, .slice va (g.O.length + 1) vc, .int .i64 g.n] 71 (0, 0)) hvs
        simpa [hndV] using this
      · intro h hh
        rcases List.mem_append.1 hh with hh | hh
        · refine ⟨m1s _ _ (HR.out.hnd h hh) (fun e => ?_) (fun e => ?_), HR.out.hof h hh, HR.out.pos h hh⟩
          · have := HR.out.hnd h hh; rw [e, HR.out.store] at this; simp [storeObj, hndObj] at this
          · obtain ⟨cur, fz, hc⟩ := HR.out.opens.ty e; rw [HR.out.hnd h hh] at hc; simp [hndObj] at hc
        · obtain rfl := Option.some.inj (List.mem_singleton.1 hh)
          exact ⟨hnew, ⟨e, HE.out, rfl, rfl⟩, by simp⟩
      · intro i1 j1 h1 k1 hi1 hj1 he1
        rw [List.getElem?_append] at hi1 hj1
        split at hi1 <;> split at hj1
        · exact HR.out.obs _ _ _ _ hi1 hj1 he1
        · have := List.mem_of_getElem? hj1
          obtain rfl := Option.some.inj (List.mem_singleton.1 this)
          exact absurd he1 (hobk h1 (List.mem_of_getElem? hi1))
        · have := List.mem_of_getElem? hi1
          obtain rfl := Option.some.inj (List.mem_singleton.1 this)
          exact absurd he1.symm (hobk k1 (List.mem_of_getElem? hj1))
        · have a1 := (List.getElem?_eq_some_iff.1 hi1).1
          have a2 := (List.getElem?_eq_some_iff.1 hj1).1
          simp at a1 a2
          omega
      · simp; omega
    · constructor
      · intro b o hb hp
        refine m1s b o hb (fun e => hp (.inl e)) (fun e => hp (.inr (.inr (.inr (.inr (.inl e))))))
      · rintro b (h | h | h | h | h | ⟨h, hh, rfl⟩)
        · exact .inl (.inl h)
        · exact .inl (.inr (.inl h))
        · exact .inl (.inr (.inr (.inl h)))
        · exact .inl (.inr (.inr (.inr (.inl h))))
        · rcases HGR.out with ⟨_, h2⟩ | ⟨gb, o, h1, h2, h3⟩
          · rw [h2] at h; exact .inl (.inr (.inr (.inr (.inr (.inl h)))))
          · have : gb = b := by have h' : (Value.slice va (g.O.length + 1) vc).ownBlock = some b := h; rw [h1] at h'; exact Option.some.inj h'
            subst this
            rcases h3 with h3 | h3
            · exact .inl (.inr (.inr (.inr (.inr (.inl h3)))))
            · cases hmb : m gb with
              | none => exact .inr rfl
              | some o => have := L2.out _ _ (L1.out _ _ hmb); rw [h3] at this; cases this
        · rw [hO] at hh
          rcases List.mem_append.1 hh with hh | hh
          · exact .inl (.inr (.inr (.inr (.inr (.inr ⟨h, hh, rfl⟩)))))
          · obtain rfl := Option.some.inj (List.mem_singleton.1 hh)
            exact .inr HFR.out
end Go.Proofs.YtcdmdkgiabfbeaaGreatDoor

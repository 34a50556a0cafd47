/-
  The questions that the checks ask of a store: there, taken, full; and the checks there.
-/
import Derived.Test.YtcdmdkgiabfbeaaGreatDoorRep
import Derived.Test.YtcdmdkgiabfbeaaGreatDoorFirst
import Derived.LaidEqlPtr
namespace Go.Proofs.YtcdmdkgiabfbeaaGreatDoor
open Go.RowKit

/-- A closure's boxes: the store's pointer, a name. -/
def BoxS (m : Mem) (p sb : Nat) : Prop := m p = some (.cells #[.pointer (some ⟨sb, 0, none⟩)] 25 (0, 0))
def BoxN (m : Mem) (p : Nat) (s : ByteArray) : Prop := m p = some (.cells #[.string s] 9 (0, 0))

theorem lookV_none {L : List Ent} {s : ByteArray} (h : getE L s = none) : lookV L s = .pointer none := by simp [lookV, h]
theorem lookV_some {L : List Ent} {s : ByteArray} {e : Ent} (h : getE L s = some e) : lookV L s = .pointer (some ⟨e.fb, 0, none⟩) := by simp [lookV, h]

set_option maxHeartbeats 400000 in
theorem there1_any (p q sb : Nat) (g : G) (s : ByteArray) (w : World) (m : Mem) (hm : Has w m) (hr : SRep m sb g) (hp : BoxS m p sb) (hq : BoxN m q s) :
    Calls Tryz.prog 81 #[.pointer (some ⟨p, 0, none⟩), .pointer (some ⟨q, 0, none⟩)] w (Post w m fun v _ => v = .bool (getE g.L s).isNone) := by
  have c0 : w.cell? ⟨p, 0, none⟩ = some (.pointer (some ⟨sb, 0, none⟩)) := by rw [hm.cell hp]; rfl
  have c1 : w.cell? ⟨q, 0, none⟩ = some (.string s) := by rw [hm.cell hq]; rfl
  have c2 : w.cell? ⟨sb, 0, none⟩ = some (.map (some g.mb)) := by rw [hm.cell hr.store]; rfl
  have hlk : ∀ n, (Instr.lookup 68 (.map (some g.mb)) (.string s) false).run Tryz.prog (w.drewN n) = .ok (lookV g.L s) (w.drewN n) := fun n => run_lookupF g.mb g.clock g.L s _ (hm _ _ hr.map)
  have H := Lib.hid hm
  clear hm hr hp hq
  cases hx : getE g.L s with
  | none =>
    rw [lookV_none hx] at hlk
    clear hx
    go_enter Tryz.func81, Tryz.ntmps81
    go_wp2_with fail
    go_quiet (fail)
    go_wp2_with fail
    go_ret
    exact Post.mk m (Mem.le_refl _) (H.out.drewN _) ((Env.refl w).drewN _) rfl
  | some e =>
    rw [lookV_some hx] at hlk
    clear hx
    go_enter Tryz.func81, Tryz.ntmps81
    go_wp2_with fail
    go_quiet (fail)
    go_wp2_with fail
    go_ret
    exact Post.mk m (Mem.le_refl _) (H.out.drewN _) ((Env.refl w).drewN _) rfl

set_option maxHeartbeats 400000 in
theorem taken1_any (p q sb : Nat) (g : G) (s : ByteArray) (w : World) (m : Mem) (hm : Has w m) (hr : SRep m sb g) (hp : BoxS m p sb) (hq : BoxN m q s) :
    Calls Tryz.prog 47 #[.pointer (some ⟨p, 0, none⟩), .pointer (some ⟨q, 0, none⟩)] w (Post w m fun v _ => v = .bool (getE g.L s).isSome) := by
  have c0 : w.cell? ⟨p, 0, none⟩ = some (.pointer (some ⟨sb, 0, none⟩)) := by rw [hm.cell hp]; rfl
  have c1 : w.cell? ⟨q, 0, none⟩ = some (.string s) := by rw [hm.cell hq]; rfl
  have c2 : w.cell? ⟨sb, 0, none⟩ = some (.map (some g.mb)) := by rw [hm.cell hr.store]; rfl
  have hlk : ∀ n, (Instr.lookup 68 (.map (some g.mb)) (.string s) false).run Tryz.prog (w.drewN n) = .ok (lookV g.L s) (w.drewN n) := fun n => run_lookupF g.mb g.clock g.L s _ (hm _ _ hr.map)
  have H := Lib.hid hm
  clear hm hr hp hq
  cases hx : getE g.L s with
  | none =>
    rw [lookV_none hx] at hlk
    clear hx
    go_enter Tryz.func47, Tryz.ntmps47
    go_wp2_with fail
    go_quiet (fail)
    go_wp2_with fail
    go_ret
    exact Post.mk m (Mem.le_refl _) (H.out.drewN _) ((Env.refl w).drewN _) rfl
  | some e =>
    rw [lookV_some hx] at hlk
    clear hx
    go_enter Tryz.func47, Tryz.ntmps47
    go_wp2_with fail
    go_quiet (fail)
    go_wp2_with fail
    go_ret
    exact Post.mk m (Mem.le_refl _) (H.out.drewN _) ((Env.refl w).drewN _) rfl

theorem enters_there1 : Enters 81 := fun _ _ => by kernel_rfl
theorem enters_taken1 : Enters 47 := fun _ _ => by kernel_rfl

set_option maxHeartbeats 400000 in
theorem there_any (sb : Nat) (g : G) (s : ByteArray) (w : World) (m : Mem) (hm : Has w m) (hr : SRep m sb g) :
    Calls Tryz.prog 45 #[.pointer (some ⟨sb, 0, none⟩), .string s] w (Post w m fun v m' => IsCheck m' v (-38) (getE g.L s).isNone) := by
  have H := Lib.hid hm
  have HR := Lib.hid hr
  clear hm hr
  go_enter Tryz.func45, Tryz.ntmps45
  go_wp2_with fail
  have e1 := H.out.alloc (.cells #[.pointer (some ⟨sb, 0, none⟩)] 25)
  have e2 := e1.alloc (.cells #[.string s] 9)
  have l1 := Mem.le_set m (.cells #[.pointer (some ⟨sb, 0, none⟩)] 25) (H.out.fresh (Nat.le_refl _))
  have l2 := Mem.le_set _ (.cells #[.string s] 9) (e1.fresh (Nat.le_refl _))
  have b1 := l2 _ _ (Mem.set_same m w.heap.size (.cells #[.pointer (some ⟨sb, 0, none⟩)] 25))
  have b2 := Mem.set_same (m.set w.heap.size (.cells #[.pointer (some ⟨sb, 0, none⟩)] 25)) (w.alloc (.cells #[.pointer (some ⟨sb, 0, none⟩)] 25)).heap.size (.cells #[.string s] 9)
  refine (when_any (-38) _ _ (getE g.L s).isNone _ _ e2 ⟨_, _, rfl, enters_there1, fun w1 m1 k h => ?_⟩).mono ?_
  · exact there1_any _ _ sb g s w1 m1 h ((HR.out.le (Mem.le_trans l1 l2)).le k) (k _ _ b1) (k _ _ (by simpa using b2))
  rintro e w2 ⟨v, m2, rfl, k2, h2, n2, hv⟩
  have L1 := Lib.hid (Mem.le_trans l1 l2)
  have L2 := Lib.hid k2
  have H2 := Lib.hid h2
  have N2 := Lib.hid n2
  have HV := Lib.hid hv
  clear l1 l2 b1 b2 e1 e2 k2 h2 n2 hv
  go_wp2_with fail
  go_ret
  exact Post.mk _ (Mem.le_trans L1.out L2.out) H2.out ((((Env.refl w).alloc _).alloc _).trans N2.out) HV.out

/-- shut's question of one open file. -/
def isOf (L : List Ent) (s : ByteArray) : Option Hnd → Bool
  | none => false
  | some h => match getE L s with | some e => decide (h.fb = e.fb) | none => false

set_option maxHeartbeats 400000 in
theorem shut11_any (p q sb : Nat) (g : G) (s : ByteArray) (x : Option Hnd) (w : World) (m : Mem) (hm : Has w m) (hr : SRep m sb g) (hp : BoxS m p sb) (hq : BoxN m q s) (hx : x ∈ g.O) :
    Calls Tryz.prog 84 #[hndV x, .pointer (some ⟨p, 0, none⟩), .pointer (some ⟨q, 0, none⟩)] w (Post w m fun v _ => v = .bool (isOf g.L s x)) := by
  have c0 : w.cell? ⟨p, 0, none⟩ = some (.pointer (some ⟨sb, 0, none⟩)) := by rw [hm.cell hp]; rfl
  have c1 : w.cell? ⟨q, 0, none⟩ = some (.string s) := by rw [hm.cell hq]; rfl
  have c2 : w.cell? ⟨sb, 0, none⟩ = some (.map (some g.mb)) := by rw [hm.cell hr.store]; rfl
  have hlk : ∀ n, (Instr.lookup 68 (.map (some g.mb)) (.string s) false).run Tryz.prog (w.drewN n) = .ok (lookV g.L s) (w.drewN n) := fun n => run_lookupF g.mb g.clock g.L s _ (hm _ _ hr.map)
  have H := Lib.hid hm
  cases x with
  | none =>
    clear hm hr hp hq hx
    simp only [hndV, isOf]
    go_enter Tryz.func84, Tryz.ntmps84
    go_wp2_with fail
    go_quiet (fail)
    go_wp2_with fail
    go_ret
    exact Post.mk m (Mem.le_refl _) (H.out.drewN _) ((Env.refl w).drewN _) rfl
  | some h =>
    have d0 : w.cell? ⟨h.ob, 0, none⟩ = some (.pointer (some ⟨h.fb, 0, none⟩)) := by rw [hm.cell (hr.hnd h hx)]; rfl
    cases hy : getE g.L s with
    | none =>
      rw [lookV_none hy] at hlk
      simp only [hndV, isOf, hy]
      clear hm hr hp hq hx hy
      go_enter Tryz.func84, Tryz.ntmps84
      go_wp2_with fail
      go_quiet (fail)
      go_wp2_with fail
      go_ret
      exact Post.mk m (Mem.le_refl _) (H.out.drewN _) ((Env.refl w).drewN _) rfl
    | some e =>
      rw [lookV_some hy] at hlk
      simp only [hndV, isOf, hy]
      have hem : e ∈ g.L := List.mem_of_find?_eq_some hy
      obtain ⟨d, hd, hd1, hd2⟩ := hr.hof h hx
      have heq : ∀ n, (binOp .eql 67 (.pointer (some ⟨h.fb, 0, none⟩)) (.pointer (some ⟨e.fb, 0, none⟩))).run Tryz.prog (w.drewN n) = .ok (.bool (decide (h.fb = e.fb))) (w.drewN n) := fun n => by
        by_cases hh : h.fb = e.fb
        · rw [hh]
          obtain ⟨j, hj, _⟩ : ∃ j, Tryz.prog.info? 80 = some j ∧ j.size ≠ 0 := by
            have : (Tryz.prog.info? 80).map (·.size) = some 1 := by kernel_rfl
            cases hq : Tryz.prog.info? 80 with
            | none => rw [hq] at this; cases this
            | some j => rw [hq] at this; exact ⟨j, rfl, by simp at this; omega⟩
          rw [run_eql_ptr_same _ _ Tryz.underlying67 hj]
          simp
        · obtain ⟨j, hj, hsz⟩ : ∃ j, Tryz.prog.info? 80 = some j ∧ j.size ≠ 0 := by
            have : (Tryz.prog.info? 80).map (·.size) = some 1 := by kernel_rfl
            cases hq : Tryz.prog.info? 80 with
            | none => rw [hq] at this; cases this
            | some j => rw [hq] at this; exact ⟨j, rfl, by simp at this; omega⟩
          rw [run_eql_ptr_other (a := ⟨h.fb, 0, none⟩) (b := ⟨e.fb, 0, none⟩) _ Tryz.underlying67 hj hsz (by simp) (hm.drewN n _ _ (by rw [← hd1]; exact hr.file d hd)) (hm.drewN n _ _ (hr.file e hem))]
          simp [hh]
      clear hm hr hp hq hx hy hem hd hd1 hd2 d
      go_enter Tryz.func84, Tryz.ntmps84
      go_wp2_with fail
      go_quiet (fail)
      go_wp2_with fail
      go_ret
      exact Post.mk m (Mem.le_refl _) (H.out.drewN _) ((Env.refl w).drewN _) rfl

set_option maxHeartbeats 400000 in
theorem indexOf_any (p q sb : Nat) (g : G) (s : ByteArray) (w : World) (m : Mem) (hm : Has w m) (hr : SRep m sb g) (hp : BoxS m p sb) (hq : BoxN m q s) :
    Calls Tryz.prog 106 #[g.ov, .func (.func 84) #[] #[.pointer (some ⟨p, 0, none⟩), .pointer (some ⟨q, 0, none⟩)]] w
      (Post w m fun v _ => ∃ r : Int, v = .int .i64 r ∧ decide (0 ≤ r) = g.O.any (isOf g.L s)) := by
  obtain ⟨oa, oc, ho, hoc⟩ := hr.opens.lenV
  have hlen := hr.olen
  have H := Lib.hid hm
  have HR := Lib.hid hr
  have HO := Lib.hid ho
  have HP := Lib.hid hp
  have HQ := Lib.hid hq
  rw [ho]
  clear hm hr ho hp hq
  go_enter Tryz.func106, Tryz.ntmps106
  go_wp2_with fail
  go_loopw [8] (fun i wr => ∃ k : Nat, k ≤ g.O.length ∧ i = .int .i64 k ∧ Hid (∃ mr, m.le mr ∧ Has wr mr ∧ Env w wr ∧ (g.O.take k).any (isOf g.L s) = false)) (fun i _ => g.O.length - (intOf i).toNat)
  case atStart => exact ⟨0, Nat.zero_le _, rfl, m, Mem.le_refl _, H.out, Env.refl _, by simp⟩
  case round =>
    obtain ⟨k, hk, rfl, hX⟩ := hrel
    obtain ⟨mr, lr, hwr, nr, ar⟩ := hX.out
    have LR := Lib.hid lr
    have HW := Lib.hid hwr
    have NR := Lib.hid nr
    have AR := Lib.hid ar
    clear lr hwr nr ar hX
    by_cases hlt : k < g.O.length
    · obtain ⟨ob, hoa⟩ : ∃ ob, oa = some ⟨ob, 0, none⟩ := by
        have h1 := HR.out.opens
        rw [HO.out] at h1
        rcases h1.2 with ⟨_, h⟩ | ⟨gg, cap, cur, fz, h, _⟩
        · omega
        · simp only [Value.slice.injEq] at h; exact ⟨gg, h.1⟩
      subst hoa
      have e0 : wr.cell? ⟨ob, k, none⟩ = some (hndV g.O[k]) := by
        have h1 := HR.out.opens
        rw [HO.out] at h1
        rw [(h1.le LR.out).cell HW.out (by omega)]
        simp [hlt]
      have TS : Hid (g.O.take (k + 1) = g.O.take k ++ [g.O[k]]) := by show _ = _; rw [List.take_succ_eq_append_getElem hlt]
      have HMEM := Lib.hid (List.getElem_mem hlt)
      generalize g.O[k] = x at *
      cases hy : isOf g.L s x with
      | true =>
        have HY := Lib.hid hy
        clear hy
        go_wp2_with fail
        refine (shut11_any p q sb g s x wr mr HW.out (HR.out.le LR.out) (LR.out _ _ HP.out) (LR.out _ _ HQ.out) HMEM.out).mono ?_
        rintro e w2 ⟨v, m2, rfl, l2, h2, n2, rfl⟩
        rw [HY.out]
        have L2 := Lib.hid l2
        have H2 := Lib.hid h2
        have N2 := Lib.hid n2
        clear l2 h2 n2
        go_wp2_with fail
        go_ret
        refine Post.mk _ (Mem.le_trans LR.out L2.out) H2.out (NR.out.trans N2.out) ⟨k, rfl, ?_⟩
        rw [show g.O.any (isOf g.L s) = true from List.any_eq_true.2 ⟨x, HMEM.out, HY.out⟩]
        simp
      | false =>
        have HY := Lib.hid hy
        clear hy
        go_wp2_with fail
        refine (shut11_any p q sb g s x wr mr HW.out (HR.out.le LR.out) (LR.out _ _ HP.out) (LR.out _ _ HQ.out) HMEM.out).mono ?_
        rintro e w2 ⟨v, m2, rfl, l2, h2, n2, rfl⟩
        rw [HY.out]
        have L2 := Lib.hid l2
        have H2 := Lib.hid h2
        have N2 := Lib.hid n2
        clear l2 h2 n2
        go_wp2_with fail
        go_roundw
        case rel => exact ⟨k + 1, by omega, by go_num, m2, Mem.le_trans LR.out L2.out, H2.out, NR.out.trans N2.out, by rw [TS.out, List.any_append, AR.out]; simp [HY.out]⟩
        case measure => simp [intOf]; omega
    · have TL := Lib.hid (show g.O.take k = g.O from List.take_of_length_le (by omega))
      go_wp2_with fail
      go_ret
      exact Post.mk mr LR.out HW.out NR.out ⟨-1, rfl, by have := AR.out; rw [TL.out] at this; rw [this]; rfl⟩

set_option maxHeartbeats 400000 in
theorem contains_any (p q sb : Nat) (g : G) (s : ByteArray) (w : World) (m : Mem) (hm : Has w m) (hr : SRep m sb g) (hp : BoxS m p sb) (hq : BoxN m q s) :
    Calls Tryz.prog 83 #[g.ov, .func (.func 84) #[] #[.pointer (some ⟨p, 0, none⟩), .pointer (some ⟨q, 0, none⟩)]] w
      (Post w m fun v _ => v = .bool (g.O.any (isOf g.L s))) := by
  have H := Lib.hid hm
  have HR := Lib.hid hr
  have HP := Lib.hid hp
  have HQ := Lib.hid hq
  clear hm hr hp hq
  go_enter Tryz.func83, Tryz.ntmps83
  go_wp2_with fail
  refine (indexOf_any p q sb g s w m H.out HR.out HP.out HQ.out).mono ?_
  rintro e w2 ⟨v, m2, rfl, l2, h2, n2, r, rfl, hv⟩
  have L2 := Lib.hid l2
  have H2 := Lib.hid h2
  have N2 := Lib.hid n2
  have HV := Lib.hid hv
  clear l2 h2 n2 hv
  go_wp2_with fail
  go_ret
  exact Post.mk _ L2.out H2.out N2.out (by rw [← HV.out]; rfl)

set_option maxHeartbeats 400000 in
theorem shut1_any (p q sb : Nat) (g : G) (s : ByteArray) (w : World) (m : Mem) (hm : Has w m) (hr : SRep m sb g) (hp : BoxS m p sb) (hq : BoxN m q s) :
    Calls Tryz.prog 82 #[.pointer (some ⟨p, 0, none⟩), .pointer (some ⟨q, 0, none⟩)] w (Post w m fun v _ => v = .bool (g.O.any (isOf g.L s))) := by
  have c0 : w.cell? ⟨p, 0, none⟩ = some (.pointer (some ⟨sb, 0, none⟩)) := by rw [hm.cell hp]; rfl
  have c2 : w.cell? ⟨sb, 2, none⟩ = some g.ov := by rw [hm.cell hr.store]; rfl
  have H := Lib.hid hm
  have HR := Lib.hid hr
  have HP := Lib.hid hp
  have HQ := Lib.hid hq
  clear hm hr hp hq
  go_enter Tryz.func82, Tryz.ntmps82
  go_wp2_with fail
  refine (contains_any p q sb g s w m H.out HR.out HP.out HQ.out).mono ?_
  rintro e w2 ⟨v, m2, rfl, l2, h2, n2, rfl⟩
  have L2 := Lib.hid l2
  have H2 := Lib.hid h2
  have N2 := Lib.hid n2
  clear l2 h2 n2
  go_wp2_with fail
  go_ret
  exact Post.mk _ L2.out H2.out N2.out rfl

theorem enters_shut1 : Enters 82 := fun _ _ => by kernel_rfl

set_option maxHeartbeats 400000 in
theorem shut_any (sb : Nat) (g : G) (s : ByteArray) (w : World) (m : Mem) (hm : Has w m) (hr : SRep m sb g) :
    Calls Tryz.prog 46 #[.pointer (some ⟨sb, 0, none⟩), .string s] w (Post w m fun v m' => IsCheck m' v (-69) (g.O.any (isOf g.L s))) := by
  have H := Lib.hid hm
  have HR := Lib.hid hr
  clear hm hr
  go_enter Tryz.func46, Tryz.ntmps46
  go_wp2_with fail
  have e1 := H.out.alloc (.cells #[.pointer (some ⟨sb, 0, none⟩)] 25)
  have e2 := e1.alloc (.cells #[.string s] 9)
  have l1 := Mem.le_set m (.cells #[.pointer (some ⟨sb, 0, none⟩)] 25) (H.out.fresh (Nat.le_refl _))
  have l2 := Mem.le_set _ (.cells #[.string s] 9) (e1.fresh (Nat.le_refl _))
  have b1 := l2 _ _ (Mem.set_same m w.heap.size (.cells #[.pointer (some ⟨sb, 0, none⟩)] 25))
  have b2 := Mem.set_same (m.set w.heap.size (.cells #[.pointer (some ⟨sb, 0, none⟩)] 25)) (w.alloc (.cells #[.pointer (some ⟨sb, 0, none⟩)] 25)).heap.size (.cells #[.string s] 9)
  refine (when_any (-69) _ _ (g.O.any (isOf g.L s)) _ _ e2 ⟨_, _, rfl, enters_shut1, fun w1 m1 k h => ?_⟩).mono ?_
  · exact shut1_any _ _ sb g s w1 m1 h ((HR.out.le (Mem.le_trans l1 l2)).le k) (k _ _ b1) (k _ _ (by simpa using b2))
  rintro e w2 ⟨v, m2, rfl, k2, h2, n2, hv⟩
  have L1 := Lib.hid (Mem.le_trans l1 l2)
  have L2 := Lib.hid k2
  have H2 := Lib.hid h2
  have N2 := Lib.hid n2
  have HV := Lib.hid hv
  clear l1 l2 b1 b2 e1 e2 k2 h2 n2 hv
  go_wp2_with fail
  go_ret
  exact Post.mk _ (Mem.le_trans L1.out L2.out) H2.out ((((Env.refl w).alloc _).alloc _).trans N2.out) HV.out

def fullB (O : List (Option Hnd)) : Bool := decide (32 ≤ (nOpen O : Int))

set_option maxHeartbeats 400000 in
theorem ofull1_any (p sb : Nat) (g : G) (w : World) (m : Mem) (hm : Has w m) (hr : SRep m sb g) (hp : BoxS m p sb) :
    Calls Tryz.prog 73 #[.pointer (some ⟨p, 0, none⟩)] w (Post w m fun v _ => v = .bool (fullB g.O)) := by
  have c0 : w.cell? ⟨p, 0, none⟩ = some (.pointer (some ⟨sb, 0, none⟩)) := by rw [hm.cell hp]; rfl
  have H := Lib.hid hm
  have HR := Lib.hid hr
  clear hm hr hp
  go_enter Tryz.func73, Tryz.ntmps73
  go_wp2_with fail
  refine (many_any sb g w m H.out HR.out).mono ?_
  rintro e w2 ⟨v, m2, rfl, l2, h2, n2, rfl⟩
  have L2 := Lib.hid l2
  have H2 := Lib.hid h2
  have N2 := Lib.hid n2
  clear l2 h2 n2
  go_wp2_with fail
  go_ret
  exact Post.mk _ L2.out H2.out N2.out rfl
theorem enters_ofull1 : Enters 73 := fun _ _ => by kernel_rfl
end Go.Proofs.YtcdmdkgiabfbeaaGreatDoor

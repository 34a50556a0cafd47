/-
  The small functions of package files: refuse, isName, the checks and what they ask; each contract says what is known of the memory behind the call.
-/
import Derived.Test.YtcdmdkgiabfbeaaDoorProg
import Derived.Test.YtcdmdkgiabfbeaaDoorMem
import Derived.WalkSpells
import Derived.WalkLawsBesides
import Derived.Deep.QuietTactic
import Derived.BigQuiet
import Derived.Lib.Hide
namespace Go.Proofs.YtcdmdkgiabfbeaaDoor
open Go.RowKit

/-- Behind a call: it returned a value; what was known (m1) is known still, and R holds of the value and of what is known now. -/
def Post (w : World) (m1 : Mem) (R : Value → Mem → Prop) : Ending → World → Prop :=
  fun e w' => ∃ v m', e = .returned v ∧ m1.le m' ∧ Has w' m' ∧ Env w w' ∧ R v m'

theorem Post.mk {w w' : World} {m1 : Mem} {R : Value → Mem → Prop} {v : Value} (m' : Mem) (h1 : m1.le m') (h2 : Has w' m') (h3 : Env w w') (h4 : R v m') :
    Post w m1 R (.returned v) w' := ⟨v, m', rfl, h1, h2, h3, h4⟩

/-- The world of a walk, forgotten but for what is known of it. -/
theorem wp_opaque {P : Program} {c : Code} {Q : Exit → Act → World → Prop} {a : Act} {w : World} (w0 : World) (m : Mem) (h : Has w m) (e : Env w0 w)
    (k : ∀ w1, Has w1 m → Env w0 w1 → c.wp P Q a w1) : c.wp P Q a w := k w h e

def ErrIs (m : Mem) (ev : Value) (x : Int) : Prop :=
  (x = 0 ∧ ev = .nilIface) ∨ (x ≠ 0 ∧ ∃ b, ev = .iface 98 (.pointer (some ⟨b, 0, none⟩)) ∧ m b = some (.cells #[.int .i64 x] 102 (0, 0)))

theorem ErrIs.le {m n : Mem} {ev : Value} {x : Int} (h : ErrIs m ev x) (k : m.le n) : ErrIs n ev x := by
  rcases h with h | ⟨h, b, hb, hm⟩
  · exact .inl h
  · exact .inr ⟨h, b, hb, k _ _ hm⟩

set_option maxHeartbeats 400000 in
theorem refuse_any (x : Int) (w : World) (m : Mem) (hm : Has w m) (hx : x ≠ 0) :
    Calls Tryd.prog 43 #[.int .i64 x] w (Post w m fun v m' => ErrIs m' v x) := by
  have H := Lib.hid hm
  clear hm
  go_enter Tryd.func43, Tryd.ntmps43
  go_wp2
  go_ret
  exact Post.mk _ (Mem.le_set _ _ (H.out.fresh (Nat.le_refl _))) (H.out.alloc _) ((Env.refl w).alloc _) (.inr ⟨hx, _, rfl, Mem.set_same _ _ _⟩)

theorem ret_bool {a b : Bool} (h : a = b) : Ending.returned (.bool a) = .returned (.bool b) := by rw [h]
theorem ret_int {k : IntKind} {a b : Int} (h : a = b) : Ending.returned (.int k a) = .returned (.int k b) := by rw [h]

def isNameB (s : ByteArray) : Bool := !s.toList.isEmpty && decide ((s.size : Int) ≤ 255)

theorem isNameB_empty {s : ByteArray} (h : s.toList = []) : isNameB s = false := by simp [isNameB, h]

set_option maxHeartbeats 400000 in
theorem isName_any (s : ByteArray) (w : World) :
    Calls Tryd.prog 20 #[.string s] w fun e w' => e = .returned (.bool (isNameB s)) ∧ w = w' := by
  go_enter Tryd.func20, Tryd.ntmps20
  go_wp2
  · go_ret
    rename_i h
    exact ⟨by rw [isNameB_empty h]; rfl, rfl⟩
  · go_ret
    refine ⟨?_, rfl⟩
    simp [isNameB]

set_option maxHeartbeats 400000 in
theorem named1_any (b : Nat) (s : ByteArray) (w : World) (h : w.cell? ⟨b, 0, none⟩ = some (.string s)) :
    Calls Tryd.prog 51 #[.pointer (some ⟨b, 0, none⟩)] w fun e w' => e = .returned (.bool (!isNameB s)) ∧ w = w' := by
  go_enter Tryd.func51, Tryd.ntmps51
  go_wp2_with ((go_at_call 20); refine (isName_any s _).mono ?_; rintro e w' ⟨rfl, rfl⟩)
  go_ret
  exact ⟨rfl, rfl⟩

def modeB (x : Int) : Bool := decide (1 ≤ x) && decide (x ≤ 3)

set_option maxHeartbeats 400000 in
theorem moded1_any (b : Nat) (x : Int) (w : World) (h : w.cell? ⟨b, 0, none⟩ = some (.int .i64 x)) :
    Calls Tryd.prog 52 #[.pointer (some ⟨b, 0, none⟩)] w fun e w' => e = .returned (.bool (!modeB x)) ∧ w = w' := by
  by_cases h1 : x < 1
  all_goals
    go_enter Tryd.func52, Tryd.ntmps52
    go_wp2
    go_ret
    refine ⟨ret_bool ?_, rfl⟩
    rw [Bool.eq_iff_iff]; simp [modeB]; omega

/-- A function that a value of function type names is a function with a body. -/
def Enters (fn : FuncId) : Prop := ∀ (args : Array Value) (w : World), (callFunc fn args).run Tryd.prog w = .ok (.enter fn args) w

/-- c is a closure that says t, wherever what m knows is known. -/
def IsPred (m : Mem) (c : Value) (t : Bool) : Prop :=
  ∃ fn caps, c = .func (.func fn) #[] caps ∧ Enters fn ∧ ∀ w m1, m.le m1 → Has w m1 → Calls Tryd.prog fn caps w (Post w m1 fun v _ => v = .bool t)

/-- c is a check that refuses with x, where t. -/
def IsCheck (m : Mem) (c : Value) (x : Int) (t : Bool) : Prop :=
  ∃ p q is, c = .func (.func 54) #[] #[.pointer (some ⟨p, 0, none⟩), .pointer (some ⟨q, 0, none⟩)] ∧ m p = some (.cells #[is] 23 (0, 0)) ∧
    m q = some (.cells #[.int .i64 x] 3 (0, 0)) ∧ IsPred m is t

theorem IsPred.le {m n : Mem} {c : Value} {t : Bool} (h : IsPred m c t) (k : m.le n) : IsPred n c t := by
  obtain ⟨fn, caps, hc, he, hp⟩ := h
  exact ⟨fn, caps, hc, he, fun w m1 h1 => hp w m1 (Mem.le_trans k h1)⟩
theorem IsCheck.le {m n : Mem} {c : Value} {x : Int} {t : Bool} (h : IsCheck m c x t) (k : m.le n) : IsCheck n c x t := by
  obtain ⟨p, q, is, hc, hp, hq, hi⟩ := h
  exact ⟨p, q, is, hc, k _ _ hp, k _ _ hq, hi.le k⟩

set_option maxHeartbeats 400000 in
theorem when_any (x : Int) (fn : FuncId) (caps : Array Value) (t : Bool) (w : World) (m : Mem) (hm : Has w m) (hi : IsPred m (.func (.func fn) #[] caps) t) :
    Calls Tryd.prog 28 #[.int .i64 x, .func (.func fn) #[] caps] w (Post w m fun v m' => IsCheck m' v x t) := by
  have H := Lib.hid hm
  have HI := Lib.hid hi
  clear hm hi
  go_enter Tryd.func28, Tryd.ntmps28
  go_wp2
  go_ret
  have e1 := H.out.alloc (.cells #[.int .i64 x] 3)
  have e2 := e1.alloc (.cells #[.func (.func fn) #[] caps] 23)
  have l1 := Mem.le_set m (.cells #[.int .i64 x] 3) (H.out.fresh (Nat.le_refl _))
  have l2 := Mem.le_set _ (.cells #[.func (.func fn) #[] caps] 23) (e1.fresh (Nat.le_refl _))
  refine Post.mk _ (Mem.le_trans l1 l2) e2 (((Env.refl w).alloc _).alloc _) ⟨w.heap.size + 1, w.heap.size, _, rfl, ?_, ?_, HI.out.le (Mem.le_trans l1 l2)⟩
  · simp [Mem.set]
  · exact l2 _ _ (Mem.set_same _ _ _)

set_option maxHeartbeats 400000 in
theorem when1_any (p q : Nat) (is : Value) (x : Int) (t : Bool) (w : World) (m : Mem) (hm : Has w m) (hp : m p = some (.cells #[is] 23 (0, 0)))
    (hq : m q = some (.cells #[.int .i64 x] 3 (0, 0))) (hi : IsPred m is t) (hx : x ≠ 0) :
    Calls Tryd.prog 54 #[.pointer (some ⟨p, 0, none⟩), .pointer (some ⟨q, 0, none⟩)] w (Post w m fun v m' => ErrIs m' v (if t then x else 0)) := by
  obtain ⟨fn, caps, rfl, he, hc⟩ := hi
  unfold Enters at he
  have c0 : w.cell? ⟨p, 0, none⟩ = some (.func (.func fn) #[] caps) := by rw [hm.cell hp]; rfl
  have H := Lib.hid hm
  have HC := Lib.hid hc
  have HQ := Lib.hid hq
  have HX := Lib.hid hx
  clear hm hc hp hq hx
  go_enter Tryd.func54, Tryd.ntmps54
  go_wp2_with fail
  refine (HC.out w m (Mem.le_refl _) H.out).mono ?_
  rintro e w1 ⟨v, m1, rfl, l1, h1, n1, rfl⟩
  have c1 : w1.cell? ⟨q, 0, none⟩ = some (.int .i64 x) := by rw [h1.cell (l1 _ _ HQ.out)]; rfl
  have L1 := Lib.hid l1
  have H1 := Lib.hid h1
  have N1 := Lib.hid n1
  clear l1 h1 n1 c0 he
  cases t
  · go_wp2_with fail
    go_ret
    exact Post.mk _ L1.out H1.out N1.out (.inl ⟨rfl, rfl⟩)
  · go_wp2_with fail
    refine (refuse_any x _ _ H1.out HX.out).mono ?_
    rintro e w2 ⟨v, m2, rfl, l2, h2, n2, hv⟩
    have L2 := Lib.hid l2
    have H2 := Lib.hid h2
    have N2 := Lib.hid n2
    have HV := Lib.hid hv
    clear l2 h2 n2 hv
    go_wp2_with fail
    go_ret
    exact Post.mk _ (Mem.le_trans L1.out L2.out) H2.out (N1.out.trans N2.out) HV.out

theorem Enters.by {fn : FuncId} (h : ∀ (args : Array Value) (w : World), (callFunc fn args).run Tryd.prog w = .ok (.enter fn args) w) : Enters fn := h

theorem enters_named1 : Enters 51 := fun _ _ => by kernel_rfl
theorem enters_moded1 : Enters 52 := fun _ _ => by kernel_rfl

set_option maxHeartbeats 400000 in
theorem named_any (s : ByteArray) (w : World) (m : Mem) (hm : Has w m) :
    Calls Tryd.prog 25 #[.string s] w (Post w m fun v m' => IsCheck m' v (-38) (!isNameB s)) := by
  have H := Lib.hid hm
  clear hm
  go_enter Tryd.func25, Tryd.ntmps25
  go_wp2_with fail
  have e1 := H.out.alloc (.cells #[.string s] 9)
  have l1 := Mem.le_set m (.cells #[.string s] 9) (H.out.fresh (Nat.le_refl _))
  refine (when_any (-38) _ _ (!isNameB s) _ _ e1 ⟨_, _, rfl, enters_named1, fun w1 m1 k h => ?_⟩).mono ?_
  · refine (named1_any _ s _ ?_).mono ?_
    · rw [h.cell (k _ _ (Mem.set_same _ _ _))]; rfl
    · rintro e w2 ⟨rfl, rfl⟩
      exact Post.mk _ (Mem.le_refl _) h (Env.refl _) rfl
  rintro e w2 ⟨v, m2, rfl, l2, h2, n2, hv⟩
  have L1 := Lib.hid l1
  have L2 := Lib.hid l2
  have H2 := Lib.hid h2
  have N2 := Lib.hid n2
  have HV := Lib.hid hv
  clear l1 e1 l2 h2 n2 hv
  go_wp2_with fail
  go_ret
  exact Post.mk _ (Mem.le_trans L1.out L2.out) H2.out (((Env.refl w).alloc _).trans N2.out) HV.out

set_option maxHeartbeats 400000 in
theorem moded_any (x : Int) (w : World) (m : Mem) (hm : Has w m) :
    Calls Tryd.prog 26 #[.int .i64 x] w (Post w m fun v m' => IsCheck m' v (-20) (!modeB x)) := by
  have H := Lib.hid hm
  clear hm
  go_enter Tryd.func26, Tryd.ntmps26
  go_wp2_with fail
  have e1 := H.out.alloc (.cells #[.int .i64 x] 3)
  have l1 := Mem.le_set m (.cells #[.int .i64 x] 3) (H.out.fresh (Nat.le_refl _))
  refine (when_any (-20) _ _ (!modeB x) _ _ e1 ⟨_, _, rfl, enters_moded1, fun w1 m1 k h => ?_⟩).mono ?_
  · refine (moded1_any _ x _ ?_).mono ?_
    · rw [h.cell (k _ _ (Mem.set_same _ _ _))]; rfl
    · rintro e w2 ⟨rfl, rfl⟩
      exact Post.mk _ (Mem.le_refl _) h (Env.refl _) rfl
  rintro e w2 ⟨v, m2, rfl, l2, h2, n2, hv⟩
  have L1 := Lib.hid l1
  have L2 := Lib.hid l2
  have H2 := Lib.hid h2
  have N2 := Lib.hid n2
  have HV := Lib.hid hv
  clear l1 e1 l2 h2 n2 hv
  go_wp2_with fail
  go_ret
  exact Post.mk _ (Mem.le_trans L1.out L2.out) H2.out (((Env.refl w).alloc _).trans N2.out) HV.out
end Go.Proofs.YtcdmdkgiabfbeaaDoor

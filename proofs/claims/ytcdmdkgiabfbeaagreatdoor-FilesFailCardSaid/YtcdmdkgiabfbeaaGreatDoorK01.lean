/-
  What is known of the memory, as a finite map from blocks to their contents; plain lemmas, no program in sight.
-/
import Derived.WalkKit
import Derived.Deep.Draws
import Derived.Test.YtcdmdkgiabfbeaaGreatDoorProg
import Derived.WalkSpells
import Derived.WalkLawsBesides
import Derived.Deep.QuietTactic
import Derived.BigQuiet
import Derived.Lib.Hide
import Derived.Maps.OwnRows
namespace Go.Proofs.YtcdmdkgiabfbeaaGreatDoor
open Go.RowKit

/-- What is known of the heap. -/
abbrev Mem := Nat → Option Obj

namespace Mem
def set (m : Mem) (b : Nat) (o : Obj) : Mem := fun k => if k = b then some o else m k
def le (m n : Mem) : Prop := ∀ b o, m b = some o → n b = some o
/-- two pieces of memory put together -/
def join (m n : Mem) : Mem := fun k => (m k).orElse fun _ => n k
def apart (m n : Mem) : Prop := ∀ b, m b = none ∨ n b = none

theorem set_same (m : Mem) (b : Nat) (o : Obj) : (m.set b o) b = some o := by simp [set]
theorem set_ne (m : Mem) {b k : Nat} (o : Obj) (h : k ≠ b) : (m.set b o) k = m k := by simp [set, h]
theorem le_refl (m : Mem) : m.le m := fun _ _ h => h
theorem le_trans {a b c : Mem} (h : a.le b) (k : b.le c) : a.le c := fun _ _ x => k _ _ (h _ _ x)
theorem le_set (m : Mem) {b : Nat} (o : Obj) (h : m b = none) : m.le (m.set b o) := by
  intro k x hk
  by_cases e : k = b
  · subst e; rw [h] at hk; cases hk
  · rw [set_ne _ _ e]; exact hk
theorem le_set_of {m n : Mem} (h : m.le n) {b : Nat} (o : Obj) (k : m b = none) : m.le (n.set b o) := by
  intro j x hj
  by_cases e : j = b
  · subst e; rw [k] at hj; cases hj
  · rw [set_ne _ _ e]; exact h _ _ hj
theorem set_mono {m n : Mem} (h : m.le n) (b : Nat) (o : Obj) : (m.set b o).le (n.set b o) := by
  intro k x hk
  by_cases e : k = b
  · subst e; rw [set_same] at hk ⊢; exact hk
  · rw [set_ne _ _ e] at hk ⊢; exact h _ _ hk
theorem set_le {m n : Mem} {b : Nat} {o : Obj} (h : ∀ k x, k ≠ b → m k = some x → n k = some x) (hb : n b = some o) : (m.set b o).le n := by
  intro k x hk
  by_cases e : k = b
  · subst e; rw [set_same] at hk; rw [hb, hk]
  · rw [set_ne _ _ e] at hk; exact h _ _ e hk
theorem set_set (m : Mem) (b : Nat) (o p : Obj) : (m.set b o).set b p = m.set b p := by
  funext k; simp only [set]; split <;> rfl
theorem set_eq (m : Mem) {b : Nat} {o : Obj} (h : m b = some o) : m.set b o = m := by
  funext k; simp only [set]; split
  · subst_vars; exact h.symm
  · rfl
theorem set_comm (m : Mem) {b c : Nat} (o p : Obj) (h : b ≠ c) : (m.set b o).set c p = (m.set c p).set b o := by
  funext k; simp only [set]; split
  · subst_vars; rw [if_neg (Ne.symm h)]
  · rfl
theorem ne_of_none {m : Mem} {b c : Nat} {o : Obj} (h : m b = none) (k : m c = some o) : b ≠ c := by
  intro e; subst e; rw [h] at k; cases k
end Mem

/-- The world bears what is known. -/
def Has (w : World) (m : Mem) : Prop := ∀ b o, m b = some o → w.heap[b]? = some o

/-- The streams and the tape are as they were. -/
structure Env (w w' : World) : Prop where
  os : w'.os = w.os
  tape : w'.tape = w.tape
  output : w'.output = w.output

theorem Env.refl (w : World) : Env w w := ⟨rfl, rfl, rfl⟩
theorem Env.trans {a b c : World} (h : Env a b) (k : Env b c) : Env a c := ⟨k.os.trans h.os, k.tape.trans h.tape, k.output.trans h.output⟩
theorem Env.alloc {a w : World} (h : Env a w) (o : Obj) : Env a (w.alloc o) := ⟨h.os, h.tape, h.output⟩
theorem Env.setCell {a w : World} (h : Env a w) (p : Addr) (v : Value) : Env a (w.setCell p v) := ⟨h.os, h.tape, h.output⟩
theorem Env.drew {a w : World} (h : Env a w) : Env a w.drew := ⟨h.os, h.tape, h.output⟩
theorem Env.drewN {a w : World} (h : Env a w) (n : Nat) : Env a (w.drewN n) := ⟨h.os, h.tape, h.output⟩

namespace Has
variable {w : World} {m : Mem}
theorem le {n : Mem} (h : Has w m) (k : n.le m) : Has w n := fun _ _ x => h _ _ (k _ _ x)
theorem lt (h : Has w m) {b : Nat} {o : Obj} (k : m b = some o) : b < w.heap.size := by
  rcases Nat.lt_or_ge b w.heap.size with x | x
  · exact x
  · have := h b o k; rw [Array.getElem?_eq_none x] at this; cases this
theorem fresh (h : Has w m) {b : Nat} (k : w.heap.size ≤ b) : m b = none := by
  cases hb : m b with
  | none => rfl
  | some o => have := h.lt hb; omega
theorem cell (h : Has w m) {b o : Nat} {c : Array Value} {e : TypeId} {fz : Nat × Nat} (k : m b = some (.cells c e fz)) : w.cell? ⟨b, o, none⟩ = c[o]? := by
  simp [World.cell?, h _ _ k]
theorem froz (h : Has w m) {b o : Nat} {c : Array Value} {e : TypeId} (k : m b = some (.cells c e (0, 0))) : w.frozen? ⟨b, o, none⟩ = false := by
  simp [World.frozen?, h _ _ k]
theorem drew (h : Has w m) : Has w.drew m := h
theorem drewN (h : Has w m) (n : Nat) : Has (w.drewN n) m := h
theorem alloc (h : Has w m) (o : Obj) : Has (w.alloc o) (m.set w.heap.size o) := by
  intro b x hb
  show (w.heap.push o)[b]? = some x
  by_cases e : b = w.heap.size
  · subst e; rw [Mem.set_same] at hb; simp [hb]
  · rw [Mem.set_ne _ _ e] at hb
    have := h.lt hb
    rw [Array.getElem?_push, if_neg (by omega)]; exact h _ _ hb
theorem keep (h : Has w m) (o : Obj) : Has (w.alloc o) m := (h.alloc o).le (Mem.le_set _ _ (h.fresh (Nat.le_refl _)))
theorem store (h : Has w m) {b off : Nat} {c : Array Value} {e : TypeId} {fz : Nat × Nat} (k : m b = some (.cells c e fz)) (v : Value) :
    Has (w.setCell ⟨b, off, none⟩ v) (m.set b (.cells (c.setIfInBounds off v) e fz)) := by
  intro j x hj
  show (w.heap.modify b _)[j]? = some x
  rw [Array.getElem?_modify]
  by_cases e : j = b
  · subst e
    rw [Mem.set_same] at hj
    rw [if_pos rfl, h _ _ k]; simpa using hj
  · rw [Mem.set_ne _ _ e] at hj
    rw [if_neg (by omega)]; exact h _ _ hj
theorem storeTo (h : Has w m) {b off : Nat} {c c' : Array Value} {e : TypeId} {fz : Nat × Nat} (k : m b = some (.cells c e fz)) (v : Value) (hc : c.setIfInBounds off v = c') :
    Has (w.setCell ⟨b, off, none⟩ v) (m.set b (.cells c' e fz)) := hc ▸ h.store k v
/-- a store into a block of which nothing else need be known -/
theorem storeNew (h : Has w m) {p : Addr} (k : m p.block = none) (v : Value) : Has (w.setCell p v) m := by
  intro j x hj
  show (w.heap.modify p.block _)[j]? = some x
  have : j ≠ p.block := fun e => by subst e; rw [k] at hj; cases hj
  rw [Array.getElem?_modify, if_neg (by omega)]; exact h _ _ hj
end Has
end Go.Proofs.YtcdmdkgiabfbeaaGreatDoor

/-
  The small functions of package files: refuse, isName, the checks and what they ask; each contract says what is known of the memory behind the call.
-/
namespace Go.Proofs.YtcdmdkgiabfbeaaGreatDoor
open Go.RowKit

/-- Behind a call: it returned a value; what was known (m1) is known still, and R holds of the value and of what is known now. -/
def Post (w : World) (m1 : Mem) (R : Value → Mem → Prop) : Ending → World → Prop :=
  fun e w' => ∃ v m', e = .returned v ∧ m1.le m' ∧ Has w' m' ∧ Env w w' ∧ R v m'

theorem Post.mk {w w' : World} {m1 : Mem} {R : Value → Mem → Prop} {v : Value} (m' : Mem) (h1 : m1.le m') (h2 : Has w' m') (h3 : Env w w') (h4 : R v m') :
    Post w m1 R (.returned v) w' := ⟨v, m', rfl, h1, h2, h3, h4⟩

/-- The world of a walk, forgotten but for what is known of it. -/
theorem wp_opaque {P : Program} {c : Code} {Q : Exit → Act → World → Prop} {a : Act} {w : World} (w0 : World) (m : Mem) (h : Has w m) (e : Env w0 w)
    (k : ∀ w1, Has w1 m → Env w0 w1 → c.wp P Q a w1) : c.wp P Q a w := k w h e

def ErrIs (m : Mem) (ev : Value) (x : Int) : Prop :=
  (x = 0 ∧ ev = .nilIface) ∨ (x ≠ 0 ∧ ∃ b, ev = .iface 104 (.pointer (some ⟨b, 0, none⟩)) ∧ m b = some (.cells #[.int .i64 x] 108 (0, 0)))

theorem ErrIs.le {m n : Mem} {ev : Value} {x : Int} (h : ErrIs m ev x) (k : m.le n) : ErrIs n ev x := by
  rcases h with h | ⟨h, b, hb, hm⟩
  · exact .inl h
  · exact .inr ⟨h, b, hb, k _ _ hm⟩

set_option maxHeartbeats 400000 in
theorem refuse_any (x : Int) (w : World) (m : Mem) (hm : Has w m) (hx : x ≠ 0) :
    Calls Tryz.prog 44 #[.int .i64 x] w (Post w m fun v m' => ErrIs m' v x) := by
  have H := Lib.hid hm
  clear hm
  go_enter Tryz.func44, Tryz.ntmps44
  go_wp2
  go_ret
  exact Post.mk _ (Mem.le_set _ _ (H.out.fresh (Nat.le_refl _))) (H.out.alloc _) ((Env.refl w).alloc _) (.inr ⟨hx, _, rfl, Mem.set_same _ _ _⟩)

theorem ret_bool {a b : Bool} (h : a = b) : Ending.returned (.bool a) = .returned (.bool b) := by rw [h]
theorem ret_int {k : IntKind} {a b : Int} (h : a = b) : Ending.returned (.int k a) = .returned (.int k b) := by rw [h]

def isNameB (s : ByteArray) : Bool := !s.toList.isEmpty && decide ((s.size : Int) ≤ 255)

theorem isNameB_empty {s : ByteArray} (h : s.toList = []) : isNameB s = false := by simp [isNameB, h]

set_option maxHeartbeats 400000 in
theorem isName_any (s : ByteArray) (w : World) :
    Calls Tryz.prog 52 #[.string s] w fun e w' => e = .returned (.bool (isNameB s)) ∧ w = w' := by
  go_enter Tryz.func52, Tryz.ntmps52
  go_wp2
  · go_ret
    rename_i h
    exact ⟨by rw [isNameB_empty h]; rfl, rfl⟩
  · go_ret
    refine ⟨?_, rfl⟩
    simp [isNameB]

set_option maxHeartbeats 400000 in
theorem named1_any (b : Nat) (s : ByteArray) (w : World) (h : w.cell? ⟨b, 0, none⟩ = some (.string s)) :
    Calls Tryz.prog 76 #[.pointer (some ⟨b, 0, none⟩)] w fun e w' => e = .returned (.bool (!isNameB s)) ∧ w = w' := by
  go_enter Tryz.func76, Tryz.ntmps76
  go_wp2_with ((go_at_call 52); refine (isName_any s _).mono ?_; rintro e w' ⟨rfl, rfl⟩)
  go_ret
  exact ⟨rfl, rfl⟩

def modeB (x : Int) : Bool := decide (1 ≤ x) && decide (x ≤ 3)

set_option maxHeartbeats 400000 in
theorem moded1_any (b : Nat) (x : Int) (w : World) (h : w.cell? ⟨b, 0, none⟩ = some (.int .i64 x)) :
    Calls Tryz.prog 77 #[.pointer (some ⟨b, 0, none⟩)] w fun e w' => e = .returned (.bool (!modeB x)) ∧ w = w' := by
  by_cases h1 : x < 1
  all_goals
    go_enter Tryz.func77, Tryz.ntmps77
    go_wp2
    go_ret
    refine ⟨ret_bool ?_, rfl⟩
    rw [Bool.eq_iff_iff]; simp [modeB]; omega

/-- A function that a value of function type names is a function with a body. -/
def Enters (fn : FuncId) : Prop := ∀ (args : Array Value) (w : World), (callFunc fn args).run Tryz.prog w = .ok (.enter fn args) w

/-- c is a closure that says t, wherever what m knows is known. -/
def IsPred (m : Mem) (c : Value) (t : Bool) : Prop :=
  ∃ fn caps, c = .func (.func fn) #[] caps ∧ Enters fn ∧ ∀ w m1, m.le m1 → Has w m1 → Calls Tryz.prog fn caps w (Post w m1 fun v _ => v = .bool t)

/-- c is a check that refuses with x, where t. -/
def IsCheck (m : Mem) (c : Value) (x : Int) (t : Bool) : Prop :=
  ∃ p q is, c = .func (.func 78) #[] #[.pointer (some ⟨p, 0, none⟩), .pointer (some ⟨q, 0, none⟩)] ∧ m p = some (.cells #[is] 24 (0, 0)) ∧
    m q = some (.cells #[.int .i64 x] 3 (0, 0)) ∧ IsPred m is t

theorem IsPred.le {m n : Mem} {c : Value} {t : Bool} (h : IsPred m c t) (k : m.le n) : IsPred n c t := by
  obtain ⟨fn, caps, hc, he, hp⟩ := h
  exact ⟨fn, caps, hc, he, fun w m1 h1 => hp w m1 (Mem.le_trans k h1)⟩
theorem IsCheck.le {m n : Mem} {c : Value} {x : Int} {t : Bool} (h : IsCheck m c x t) (k : m.le n) : IsCheck n c x t := by
  obtain ⟨p, q, is, hc, hp, hq, hi⟩ := h
  exact ⟨p, q, is, hc, k _ _ hp, k _ _ hq, hi.le k⟩

set_option maxHeartbeats 400000 in
theorem when_any (x : Int) (fn : FuncId) (caps : Array Value) (t : Bool) (w : World) (m : Mem) (hm : Has w m) (hi : IsPred m (.func (.func fn) #[] caps) t) :
    Calls Tryz.prog 31 #[.int .i64 x, .func (.func fn) #[] caps] w (Post w m fun v m' => IsCheck m' v x t) := by
  have H := Lib.hid hm
  have HI := Lib.hid hi
  clear hm hi
  go_enter Tryz.func31, Tryz.ntmps31
  go_wp2
  go_ret
  have e1 := H.out.alloc (.cells #[.int .i64 x] 3)
  have e2 := e1.alloc (.cells #[.func (.func fn) #[] caps] 24)
  have l1 := Mem.le_set m (.cells #[.int .i64 x] 3) (H.out.fresh (Nat.le_refl _))
  have l2 := Mem.le_set _ (.cells #[.func (.func fn) #[] caps] 24) (e1.fresh (Nat.le_refl _))
  refine Post.mk _ (Mem.le_trans l1 l2) e2 (((Env.refl w).alloc _).alloc _) ⟨w.heap.size + 1, w.heap.size, _, rfl, ?_, ?_, HI.out.le (Mem.le_trans l1 l2)⟩
  · simp [Mem.set]
  · exact l2 _ _ (Mem.set_same _ _ _)

set_option maxHeartbeats 400000 in
theorem when1_any (p q : Nat) (is : Value) (x : Int) (t : Bool) (w : World) (m : Mem) (hm : Has w m) (hp : m p = some (.cells #[is] 24 (0, 0)))
    (hq : m q = some (.cells #[.int .i64 x] 3 (0, 0))) (hi : IsPred m is t) (hx : x ≠ 0) :
    Calls Tryz.prog 78 #[.pointer (some ⟨p, 0, none⟩), .pointer (some ⟨q, 0, none⟩)] w (Post w m fun v m' => ErrIs m' v (if t then x else 0)) := by
  obtain ⟨fn, caps, rfl, he, hc⟩ := hi
  unfold Enters at he
  have c0 : w.cell? ⟨p, 0, none⟩ = some (.func (.func fn) #[] caps) := by rw [hm.cell hp]; rfl
  have H := Lib.hid hm
  have HC := Lib.hid hc
  have HQ := Lib.hid hq
  have HX := Lib.hid hx
  clear hm hc hp hq hx
  go_enter Tryz.func78, Tryz.ntmps78
  go_wp2_with fail
  refine (HC.out w m (Mem.le_refl _) H.out).mono ?_
  rintro e w1 ⟨v, m1, rfl, l1, h1, n1, rfl⟩
  have c1 : w1.cell? ⟨q, 0, none⟩ = some (.int .i64 x) := by rw [h1.cell (l1 _ _ HQ.out)]; rfl
  have L1 := Lib.hid l1
  have H1 := Lib.hid h1
  have N1 := Lib.hid n1
  clear l1 h1 n1 c0 he
  cases t
  · go_wp2_with fail
    go_ret
    exact Post.mk _ L1.out H1.out N1.out (.inl ⟨rfl, rfl⟩)
  · go_wp2_with fail
    refine (refuse_any x _ _ H1.out HX.out).mono ?_
    rintro e w2 ⟨v, m2, rfl, l2, h2, n2, hv⟩
    have L2 := Lib.hid l2
    have H2 := Lib.hid h2
    have N2 := Lib.hid n2
    have HV := Lib.hid hv
    clear l2 h2 n2 hv
    go_wp2_with fail
    go_ret
    exact Post.mk _ (Mem.le_trans L1.out L2.out) H2.out (N1.out.trans N2.out) HV.out

theorem Enters.by {fn : FuncId} (h : ∀ (args : Array Value) (w : World), (callFunc fn args).run Tryz.prog w = .ok (.enter fn args) w) : Enters fn := h

theorem enters_named1 : Enters 76 := fun _ _ => by kernel_rfl
theorem enters_moded1 : Enters 77 := fun _ _ => by kernel_rfl

set_option maxHeartbeats 400000 in
theorem named_any (s : ByteArray) (w : World) (m : Mem) (hm : Has w m) :
    Calls Tryz.prog 29 #[.string s] w (Post w m fun v m' => IsCheck m' v (-38) (!isNameB s)) := by
  have H := Lib.hid hm
  clear hm
  go_enter Tryz.func29, Tryz.ntmps29
  go_wp2_with fail
  have e1 := H.out.alloc (.cells #[.string s] 9)
  have l1 := Mem.le_set m (.cells #[.string s] 9) (H.out.fresh (Nat.le_refl _))
  refine (when_any (-38) _ _ (!isNameB s) _ _ e1 ⟨_, _, rfl, enters_named1, fun w1 m1 k h => ?_⟩).mono ?_
  · refine (named1_any _ s _ ?_).mono ?_
    · rw [h.cell (k _ _ (Mem.set_same _ _ _))]; rfl
    · rintro e w2 ⟨rfl, rfl⟩
      exact Post.mk _ (Mem.le_refl _) h (Env.refl _) rfl
  rintro e w2 ⟨v, m2, rfl, l2, h2, n2, hv⟩
  have L1 := Lib.hid l1
  have L2 := Lib.hid l2
  have H2 := Lib.hid h2
  have N2 := Lib.hid n2
  have HV := Lib.hid hv
  clear l1 e1 l2 h2 n2 hv
  go_wp2_with fail
  go_ret
  exact Post.mk _ (Mem.le_trans L1.out L2.out) H2.out (((Env.refl w).alloc _).trans N2.out) HV.out

set_option maxHeartbeats 400000 in
theorem moded_any (x : Int) (w : World) (m : Mem) (hm : Has w m) :
    Calls Tryz.prog 30 #[.int .i64 x] w (Post w m fun v m' => IsCheck m' v (-20) (!modeB x)) := by
  have H := Lib.hid hm
  clear hm
  go_enter Tryz.func30, Tryz.ntmps30
  go_wp2_with fail
  have e1 := H.out.alloc (.cells #[.int .i64 x] 3)
  have l1 := Mem.le_set m (.cells #[.int .i64 x] 3) (H.out.fresh (Nat.le_refl _))
  refine (when_any (-20) _ _ (!modeB x) _ _ e1 ⟨_, _, rfl, enters_moded1, fun w1 m1 k h => ?_⟩).mono ?_
  · refine (moded1_any _ x _ ?_).mono ?_
    · rw [h.cell (k _ _ (Mem.set_same _ _ _))]; rfl
    · rintro e w2 ⟨rfl, rfl⟩
      exact Post.mk _ (Mem.le_refl _) h (Env.refl _) rfl
  rintro e w2 ⟨v, m2, rfl, l2, h2, n2, hv⟩
  have L1 := Lib.hid l1
  have L2 := Lib.hid l2
  have H2 := Lib.hid h2
  have N2 := Lib.hid n2
  have HV := Lib.hid hv
  clear l1 e1 l2 h2 n2 hv
  go_wp2_with fail
  go_ret
  exact Post.mk _ (Mem.le_trans L1.out L2.out) H2.out (((Env.refl w).alloc _).trans N2.out) HV.out
end Go.Proofs.YtcdmdkgiabfbeaaGreatDoor

/-
  Slices that own their block, in memory that is known: append, copy, a slice of bytes and its string; no program in sight.
-/
namespace Go.Proofs.YtcdmdkgiabfbeaaGreatDoor
open Go.RowKit

def byteV (b : UInt8) : Value := .int .u8 (b.toNat : Int)

/-- No cell of the block is shared with a string. -/
def Thaw (c : Array Value) (fz : Nat × Nat) : Prop := ∀ o, o < c.size → (decide (fz.1 ≤ o) && decide (o < fz.2)) = false
theorem Thaw.zero (c : Array Value) : Thaw c (0, 0) := fun o _ => by simp
theorem Thaw.size {c d : Array Value} {fz : Nat × Nat} (h : Thaw c fz) (k : d.size = c.size) : Thaw d fz := fun o ho => h o (by omega)

/-- v is nil, or the whole of a block from its head on: n elements of k cells each, the cells xs; behind them there is room as the capacity says. -/
def Row (m : Mem) (v : Value) (e : TypeId) (k n : Nat) (xs : List Value) : Prop :=
  xs.length = n * k ∧ ((v = .slice none 0 0 ∧ n = 0) ∨
    ∃ g cap cur fz, v = .slice (some ⟨g, 0, none⟩) n cap ∧ m g = some (.cells cur e fz) ∧ Thaw cur fz ∧ n ≤ cap ∧ cap ≤ maxLen ∧ cap * k ≤ cur.size ∧ cur.toList.take (n * k) = xs)

theorem Row.le {m m' : Mem} {v : Value} {e : TypeId} {k n : Nat} {xs : List Value} (h : Row m v e k n xs) (l : m.le m') : Row m' v e k n xs := by
  obtain ⟨h1, h2 | ⟨g, cap, cur, fz, hv, hg, r⟩⟩ := h
  · exact ⟨h1, .inl h2⟩
  · exact ⟨h1, .inr ⟨g, cap, cur, fz, hv, l _ _ hg, r⟩⟩
theorem Row.nil (m : Mem) (e : TypeId) (k : Nat) : Row m (.slice none 0 0) e k 0 [] := ⟨by simp, .inl ⟨rfl, rfl⟩⟩

/-- What a row's block is, kept where another block is written. -/
theorem Row.set_other {m : Mem} {v : Value} {e : TypeId} {k n : Nat} {xs : List Value} (h : Row m v e k n xs) {b : Nat} (o : Obj) (hb : v.ownBlock ≠ some b) : Row (m.set b o) v e k n xs := by
  obtain ⟨h1, h2 | ⟨g, cap, cur, fz, hv, hg, r⟩⟩ := h
  · exact ⟨h1, .inl h2⟩
  · refine ⟨h1, .inr ⟨g, cap, cur, fz, hv, ?_, r⟩⟩
    rw [Mem.set_ne _ _ (by intro e; subst e; subst hv; exact hb rfl)]; exact hg

theorem Row.own {m : Mem} {v : Value} {e : TypeId} {k n : Nat} {xs : List Value} (h : Row m v e k n xs) {b : Nat} (hb : v.ownBlock = some b) :
    ∃ cap cur fz, v = .slice (some ⟨b, 0, none⟩) n cap ∧ m b = some (.cells cur e fz) ∧ Thaw cur fz ∧ n ≤ cap ∧ cap ≤ maxLen ∧ cap * k ≤ cur.size ∧ cur.toList.take (n * k) = xs := by
  obtain ⟨h1, ⟨rfl, _⟩ | ⟨g, cap, cur, fz, rfl, hg, r⟩⟩ := h
  · cases hb
  · simp only [Value.ownBlock, Option.some.injEq] at hb
    subst hb
    exact ⟨cap, cur, fz, rfl, hg, r⟩

theorem Row.lenV {m : Mem} {v : Value} {e : TypeId} {k n : Nat} {xs : List Value} (h : Row m v e k n xs) : ∃ a cap, v = .slice a n cap ∧ n ≤ cap := by
  obtain ⟨_, ⟨rfl, rfl⟩ | ⟨g, cap, cur, fz, rfl, _, _, hn, _⟩⟩ := h
  · exact ⟨_, _, rfl, Nat.le_refl _⟩
  · exact ⟨_, _, rfl, hn⟩

/-- A cell of a row. -/
theorem Row.cell {m : Mem} {e : TypeId} {k n g cap : Nat} {xs : List Value} {w : World} (hm : Has w m) (h : Row m (.slice (some ⟨g, 0, none⟩) n cap) e k n xs) {j : Nat} (hj : j < n * k) :
    w.cell? ⟨g, j, none⟩ = xs[j]? := by
  obtain ⟨cap', cur, fz, hv, hg, _, _, _, _, ht⟩ := h.own (b := g) rfl
  rw [hm.cell hg, ← ht, List.getElem?_take, if_pos hj]
  simp

def splice : Array Value → Nat → List Value → Array Value
  | c, _, [] => c
  | c, o, v :: r => splice (c.setIfInBounds o v) (o + 1) r

theorem splice_size : ∀ (vs : List Value) (c : Array Value) (o : Nat), (splice c o vs).size = c.size
  | [], _, _ => rfl
  | v :: r, c, o => by rw [splice, splice_size r]; simp

theorem splice_get : ∀ (vs : List Value) (c : Array Value) (o j : Nat), o + vs.length ≤ c.size →
    (splice c o vs)[j]? = if o ≤ j ∧ j < o + vs.length then vs[j - o]? else c[j]?
  | [], c, o, j, _ => by simp [splice]; intro h1 h2; omega
  | v :: r, c, o, j, h => by
    simp only [List.length_cons] at h
    rw [splice, splice_get r _ _ _ (by simp; omega)]
    by_cases h1 : o + 1 ≤ j ∧ j < o + 1 + r.length
    · rw [if_pos h1, if_pos (by simp; omega), show j - o = (j - (o + 1)) + 1 from by omega]; rfl
    · rw [if_neg h1]
      by_cases h2 : j = o
      · subst h2
        rw [if_pos (by simp), Array.getElem?_setIfInBounds]
        simp; omega
      · rw [if_neg (by simp; omega), Array.getElem?_setIfInBounds, if_neg (by omega)]

theorem splice_take (vs : List Value) (c : Array Value) (o n : Nat) (h : o + vs.length ≤ c.size) (hn : n = o + vs.length) :
    (splice c o vs).toList.take n = c.toList.take o ++ vs := by
  subst hn
  apply List.ext_getElem?
  intro j
  rw [List.getElem?_take]
  have hs : (splice c o vs).toList[j]? = (splice c o vs)[j]? := by simp
  by_cases hj : j < o + vs.length
  · rw [if_pos hj, hs, splice_get _ _ _ _ h]
    by_cases h2 : o ≤ j
    · rw [if_pos ⟨h2, hj⟩, List.getElem?_append_right (by simp; omega)]
      congr 1; simp; omega
    · rw [if_neg (by omega), List.getElem?_append_left (by simp; omega), List.getElem?_take, if_pos (by omega)]; simp
  · rw [if_neg hj, List.getElem?_eq_none]; simp; omega

theorem Has.stores : ∀ (vs : List Value) (c : Array Value) (o : Nat) (w : World) (m : Mem), Has w m → ∀ {b : Nat} {e : TypeId} {fz : Nat × Nat}, m b = some (.cells c e fz) →
    Has (w.setCells b o vs) (m.set b (.cells (splice c o vs) e fz))
  | [], c, o, w, m, h, b, e, fz, k => by
    rw [splice, World.setCells, Mem.set_eq _ k]; exact h
  | v :: r, c, o, w, m, h, b, e, fz, k => by
    have h1 := h.store (off := o) k v
    have h2 := Has.stores r _ (o + 1) _ _ h1 (Mem.set_same _ _ _)
    rw [Mem.set_set] at h2
    exact h2

theorem Env.stores {a : World} : ∀ (vs : List Value) (b o : Nat) (w : World), Env a w → Env a (w.setCells b o vs)
  | [], _, _, _, h => h
  | _ :: r, b, o, _, h => Env.stores r b (o + 1) _ (h.setCell _ _)

/-- The cells from an address on are known. -/
def Cells (m : Mem) (b o : Nat) (xs : List Value) : Prop := ∃ c e fz, m b = some (.cells c e fz) ∧ ∀ j u, xs[j]? = some u → c[o + j]? = some u

theorem Cells.le {m m' : Mem} {b o : Nat} {xs : List Value} (h : Cells m b o xs) (l : m.le m') : Cells m' b o xs := by
  obtain ⟨c, e, fz, h1, h2⟩ := h
  exact ⟨c, e, fz, l _ _ h1, h2⟩
theorem Cells.at {m : Mem} {b o : Nat} {xs : List Value} (h : Cells m b o xs) {w : World} (hm : Has w m) : ∀ j u, xs[j]? = some u → w.cell? ((⟨b, o, none⟩ : Addr).add j) = some u := by
  obtain ⟨c, e, fz, h1, h2⟩ := h
  intro j u hj
  have hadd : (⟨b, o, none⟩ : Addr).add j = ⟨b, o + j, none⟩ := by unfold Addr.add; split <;> simp_all
  rw [hadd, hm.cell h1]; exact h2 j u hj
theorem Cells.whole {m : Mem} {b : Nat} {xs : List Value} {c : Array Value} {e : TypeId} {fz : Nat × Nat} (h : m b = some (.cells c e fz)) (hx : c.toList = xs) : Cells m b 0 xs :=
  ⟨c, e, fz, h, fun j u hj => by subst hx; simpa using hj⟩
theorem Row.cells {m : Mem} {e : TypeId} {k n g cap : Nat} {xs : List Value} (h : Row m (.slice (some ⟨g, 0, none⟩) n cap) e k n xs) : Cells m g 0 xs := by
  obtain ⟨cap', cur, fz, hv, hg, _, _, _, _, ht⟩ := h.own (b := g) rfl
  refine ⟨cur, e, fz, hg, fun j u hj => ?_⟩
  rw [← ht, List.getElem?_take] at hj
  split at hj
  · simpa using hj
  · cases hj

/-- How what is known changes when a slice's own row is appended to. -/
def Grows (m m' : Mem) (v v' : Value) : Prop :=
  (m' = m ∧ v'.ownBlock = v.ownBlock) ∨ ∃ g o, v'.ownBlock = some g ∧ m' = m.set g o ∧ (v.ownBlock = some g ∨ m g = none)

theorem Grows.keep {m m' : Mem} {v v' : Value} (h : Grows m m' v v') {b : Nat} {o : Obj} (k : m b = some o) (hb : v.ownBlock ≠ some b) : m' b = some o := by
  rcases h with ⟨rfl, _⟩ | ⟨g, p, _, rfl, h⟩
  · exact k
  · rw [Mem.set_ne]
    · exact k
    · intro e; subst e
      rcases h with h | h
      · exact hb h
      · rw [h] at k; cases k

section
variable {P : Program} {w : World} {m : Mem}

/-- append, whatever the room. -/
theorem run_append_row (t ty e : TypeId) (i : TypeInfo) (z : Value) (k bytes : Nat) (ht : P.underlying t = some (.slice e)) (hi : P.info? e = some i) (hz : i.zero = some z)
    (hsize : i.size = k) (hby : i.bytes = bytes) (hzs : z.cells.size = k) (hk : 0 < k) (hm : Has w m)
    (v : Value) (n : Nat) (xs : List Value) (hrow : Row m v e k n xs)
    (b o j c : Nat) (news : List Value) (hl : news.length = j * k) (hnews : Cells m b o news) (h1 : ∀ u ∈ news, u.oneCell' = true) (hj : 0 < j)
    (hbytes : (n + j) * bytes ≤ 140737488355328) (hmax : n + j ≤ 140737488355328) :
    ∃ v' w' m', (Builtin.append_ #[t, t] ty #[v, .slice (some ⟨b, o, none⟩) j c]).run P w = .ok v' w' ∧ Env w w' ∧ Has w' m' ∧ Row m' v' e k (n + j) (xs ++ news) ∧ Grows m m' v v' := by
  subst hsize
  subst hby
  have hnw := hnews.at hm
  have hlen : (xs ++ news).length = (n + j) * i.size := by rw [List.length_append, hrow.1, hl, Nat.add_mul]
  have hML : maxLen = 9223372036854775807 := rfl
  have grown : ∀ (old : Nat) (xs' : List Value), xs' = xs →
      Env w (w.drew.alloc (.cells (xs'.toArray ++ news.toArray ++ Builtin.zeroCells z.cells (grownCap w (n + j) old e - (n + j))) e)) ∧
      Has (w.drew.alloc (.cells (xs'.toArray ++ news.toArray ++ Builtin.zeroCells z.cells (grownCap w (n + j) old e - (n + j))) e))
        (m.set w.heap.size (.cells (xs'.toArray ++ news.toArray ++ Builtin.zeroCells z.cells (grownCap w (n + j) old e - (n + j))) e)) ∧
      Row (m.set w.heap.size (.cells (xs'.toArray ++ news.toArray ++ Builtin.zeroCells z.cells (grownCap w (n + j) old e - (n + j))) e))
        (.slice (some ⟨w.heap.size, 0, none⟩) (n + j) (grownCap w (n + j) old e)) e i.size (n + j) (xs ++ news) ∧ m w.heap.size = none := by
    intro old xs' hx
    subst hx
    have hge := grownCap_ge w (n + j) old e
    have hcm : grownCap w (n + j) old e ≤ maxLen := grownCap_le_maxLen w (n + j) old e (by omega)
    refine ⟨(Env.refl w).drew.alloc _, hm.drew.alloc _, ⟨hlen, .inr ⟨w.heap.size, _, _, _, rfl, Mem.set_same _ _ _, Thaw.zero _, hge, hcm, ?_, ?_⟩⟩, hm.fresh (Nat.le_refl _)⟩
    · simp only [Array.size_append, List.size_toArray, size_zeroCells, hzs, hrow.1, hl, ← Nat.add_mul]
      exact Nat.mul_le_mul_right _ (by omega)
    · simp only [Array.toList_append, List.append_assoc]
      rw [← List.append_assoc, ← hlen]
      exact List.take_left
  obtain ⟨hxl, ⟨rfl, rfl⟩ | ⟨g, cap, cur, fz, rfl, hg, hth, hnc, hcm, hcs, htk⟩⟩ := hrow
  · have hx : xs = [] := List.eq_nil_of_length_eq_zero (by simpa using hxl)
    have hr := run_append_nil (P := P) w t ty e i z ht hi hz ⟨b, o, none⟩ j c news hl hnw hj (by omega) (by simp only [Nat.zero_add] at hbytes; omega)
    obtain ⟨g1, g2, g3, g4⟩ := grown 0 xs rfl
    subst hx
    simp only [Nat.zero_add, List.nil_append, Array.empty_append] at g1 g2 g3 hr ⊢
    exact ⟨_, _, _, hr, g1, g2, g3, .inr ⟨_, _, rfl, rfl, .inr g4⟩⟩
  · by_cases hroom : n + j ≤ cap
    · have hfit : n * i.size + news.length ≤ cur.size := by
        rw [hl, ← Nat.add_mul]; exact Nat.le_trans (Nat.mul_le_mul_right _ hroom) hcs
      have hcell : ∀ q, q < news.length → (w.cell? ⟨g, 0 + n * i.size + q, none⟩).isSome = true := fun q hq => by
        rw [hm.cell hg]; simp; omega
      have hfro : ∀ q, q < news.length → w.frozen? ⟨g, 0 + n * i.size + q, none⟩ = false := fun q hq => by
        have := hth (0 + n * i.size + q) (by omega)
        simp only [World.frozen?, hm _ _ hg]; exact this
      have hr := run_append_room_cells (P := P) w t ty e i ht hi g 0 n cap ⟨b, o, none⟩ j c news hl hnw h1 hroom hcell hfro
      refine ⟨_, _, _, hr, Env.stores _ _ _ _ (Env.refl w), Has.stores news cur _ _ _ hm hg, ⟨hlen, .inr ⟨g, cap, _, fz, rfl, Mem.set_same _ _ _, hth.size (splice_size _ _ _), hroom, hcm, by rw [splice_size]; exact hcs, ?_⟩⟩, .inr ⟨g, _, rfl, rfl, .inl rfl⟩⟩
      rw [splice_take _ _ _ _ (by omega) (by rw [hl, Nat.add_mul]; omega), Nat.zero_add, htk]
    · have holds : ∀ q u, xs[q]? = some u → w.cell? ((⟨g, 0, none⟩ : Addr).add q) = some u :=
        (Row.cells (cap := cap) (n := n) ⟨hxl, .inr ⟨g, cap, cur, fz, rfl, hg, hth, hnc, hcm, hcs, htk⟩⟩).at hm
      have hr := run_append_grow (P := P) w t ty e i z ht hi hz ⟨g, 0, none⟩ n cap xs hxl holds ⟨b, o, none⟩ j c news hl hnw (by omega) (by omega) (growslice_fits (by omega) hbytes)
      obtain ⟨g1, g2, g3, g4⟩ := grown cap xs rfl
      exact ⟨_, _, _, hr, g1, g2, g3, .inr ⟨_, _, rfl, rfl, .inr g4⟩⟩

theorem run_storeZeros {e : TypeId} {g o : Nat} {cur : Array Value} {fz : Nat × Nat} (hm : Has w m) (hg : m g = some (.cells cur e fz)) (hth : Thaw cur fz) (vs : List Value) (hfit : o + vs.length ≤ cur.size) (h1 : ∀ u ∈ vs, u.oneCell' = true) :
    (storeCells ((⟨g, 0, none⟩ : Addr).add o) vs).run P w = .ok () (w.setCells g o vs) := by
  have hadd : (⟨g, 0, none⟩ : Addr).add o = ⟨g, o, none⟩ := by unfold Addr.add; split <;> simp_all
  have hcell : ∀ q, q < vs.length → (w.cell? ⟨g, o + 0 + q, none⟩).isSome = true := fun q hq => by
    rw [hm.cell hg]; simp; omega
  have hfro : ∀ q, q < vs.length → w.frozen? ⟨g, o + 0 + q, none⟩ = false := fun q hq => by
    have := hth (o + 0 + q) (by omega)
    simp only [World.frozen?, hm _ _ hg]; exact this
  have := run_storeCells_cells (P := P) g o vs 0 w hcell hfro h1
  rw [hadd, this]
  simp

theorem zeroCells_one (z : Value) (n : Nat) : (Builtin.zeroCells #[z] n).toList = List.replicate n z := by
  apply List.ext_getElem?
  intro j
  simp only [Builtin.zeroCells, List.size_toArray, List.length_singleton, Nat.mul_one, Array.toList_map, Array.toList_range, List.getElem?_map, List.getElem?_replicate]
  by_cases h : j < n
  · simp [h, Nat.mod_one]
  · simp [h]

/-- append of so many noughts: 'append(b, make([]byte, j)...)'. -/
theorem run_append_zeros (t u ty e : TypeId) (i : TypeInfo) (z : Value) (ht : P.underlying t = some (.slice e)) (hu : P.underlying u = some (.int .i64)) (hi : P.info? e = some i) (hz : i.zero = some z)
    (hsize : i.size = 1) (hby : i.bytes = 1) (hzc : z.cells = #[z]) (hz1 : z.oneCell' = true) (hm : Has w m)
    (v : Value) (n : Nat) (xs : List Value) (hrow : Row m v e 1 n xs) (j : Nat) (hj : 0 < j) (hmax : n + j ≤ 1000000000) :
    ∃ v' w' m', (Builtin.append_ #[t, u] ty #[v, .int .i64 (j : Int)]).run P w = .ok v' w' ∧ Env w w' ∧ Has w' m' ∧ Row m' v' e 1 (n + j) (xs ++ List.replicate j z) ∧ Grows m m' v v' := by
  have hw : IntKind.i64.wrap (j : Int) = j := by simp [IntKind.wrap, IntKind.signed, IntKind.bits]; omega
  have hML : maxLen = 9223372036854775807 := rfl
  have h0 : ¬ ((j : Int) < 0) := by omega
  have hlen : (xs ++ List.replicate j z).length = (n + j) * 1 := by rw [List.length_append, hrow.1, List.length_replicate, Nat.add_mul]; omega
  have grown : ∀ (old : Nat) (xs' : List Value), xs' = xs →
      Has (w.drew.alloc (.cells (xs'.toArray ++ Builtin.zeroCells #[z] j ++ Builtin.zeroCells #[z] (grownCap w (n + j) old e - (n + j))) e))
        (m.set w.heap.size (.cells (xs'.toArray ++ Builtin.zeroCells #[z] j ++ Builtin.zeroCells #[z] (grownCap w (n + j) old e - (n + j))) e)) ∧
      Row (m.set w.heap.size (.cells (xs'.toArray ++ Builtin.zeroCells #[z] j ++ Builtin.zeroCells #[z] (grownCap w (n + j) old e - (n + j))) e))
        (.slice (some ⟨w.heap.size, 0, none⟩) (n + j) (grownCap w (n + j) old e)) e 1 (n + j) (xs ++ List.replicate j z) ∧ m w.heap.size = none := by
    intro old xs' hx
    subst hx
    have hge := grownCap_ge w (n + j) old e
    have hcm : grownCap w (n + j) old e ≤ maxLen := grownCap_le_maxLen w (n + j) old e (by omega)
    refine ⟨hm.drew.alloc _, ⟨hlen, .inr ⟨w.heap.size, _, _, _, rfl, Mem.set_same _ _ _, Thaw.zero _, hge, hcm, ?_, ?_⟩⟩, hm.fresh (Nat.le_refl _)⟩
    · have := hrow.1
      simp only [Array.size_append, List.size_toArray, size_zeroCells, List.length_singleton]
      omega
    · simp only [Array.toList_append, zeroCells_one]
      rw [← hlen]
      exact List.take_left
  obtain ⟨hxl, ⟨rfl, rfl⟩ | ⟨g, cap, cur, fz, rfl, hg, hth, hnc, hcm, hcs, htk⟩⟩ := hrow
  · have hx : xs = [] := List.eq_nil_of_length_eq_zero (by simpa using hxl)
    subst hx
    obtain ⟨g2, g3, g4⟩ := grown 0 [] rfl
    simp only [Nat.zero_add, List.nil_append] at g2 g3 ⊢
    refine ⟨_, _, _, ?_, (Env.refl w).drew.alloc _, g2, g3, .inr ⟨_, _, rfl, rfl, .inr g4⟩⟩
    have hj0 : j ≠ 0 := by omega
    have b1 : ¬ (281474976710656 < (j : Int)) := by omega
    have b2 : ¬ (9223372036854775807 < (j : Int)) := by omega
    have b3 : ¬ (281474976710656 < Builtin.nextslicecap j 0) := by rw [nextslicecap_zero hj]; omega
    simp [Builtin.append_, run_underlying ht, run_underlying hu, sizeOf, typeInfo, zeroValue, hi, hz, hsize, hby, asInt, asIntOf, hw, h0, hj0, Question.forced, Builtin.firstCells, newRow, grownCap, hzc, b1, b2, b3]
  · by_cases hroom : n + j ≤ cap
    · have hfit : n + (List.replicate j z).length ≤ cur.size := by simp; omega
      have hst := run_storeZeros (P := P) (o := n) hm hg hth (List.replicate j z) hfit (fun u hu => by rw [(List.mem_replicate.1 hu).2]; exact hz1)
      refine ⟨_, _, _, ?_, Env.stores (List.replicate j z) g n _ (Env.refl w), Has.stores (List.replicate j z) cur n _ _ hm hg, ⟨hlen, .inr ⟨g, cap, _, fz, rfl, Mem.set_same _ _ _, hth.size (splice_size _ _ _), hroom, hcm, by rw [splice_size]; exact hcs, ?_⟩⟩, .inr ⟨g, _, rfl, rfl, .inl rfl⟩⟩
      · have hj0 : j ≠ 0 := by omega
        have b1 : ¬ (281474976710656 < (j : Int)) := by omega
        have b2 : ¬ (9223372036854775807 < ((n : Int) + (j : Int))) := by omega
        simp [Builtin.append_, run_underlying ht, run_underlying hu, sizeOf, typeInfo, zeroValue, hi, hz, hsize, hby, asInt, asIntOf, hw, h0, hj0, hroom, hzc, b1, zeroCells_one, hst]
      · rw [splice_take _ _ _ _ hfit (by simp), show cur.toList.take n = xs from by rw [← htk, Nat.mul_one]]
    · have holds : ∀ q u, xs[q]? = some u → w.drew.cell? ((⟨g, 0, none⟩ : Addr).add q) = some u :=
        (Row.cells (cap := cap) (n := n) ⟨hxl, .inr ⟨g, cap, cur, fz, rfl, hg, hth, hnc, hcm, hcs, htk⟩⟩).at hm.drew
      have hfo := run_firstCells_some (P := P) w.drew 1 n ⟨g, 0, none⟩ n cap xs hxl holds
      obtain ⟨g2, g3, g4⟩ := grown cap xs rfl
      refine ⟨_, _, _, ?_, (Env.refl w).drew.alloc _, g2, g3, .inr ⟨_, _, rfl, rfl, .inr g4⟩⟩
      have hj0 : j ≠ 0 := by omega
      have b1 : ¬ (281474976710656 < (j : Int)) := by omega
      have b2 : ¬ (9223372036854775807 < ((n : Int) + (j : Int))) := by omega
      have b3 : ¬ (281474976710656 < Builtin.nextslicecap (n + j) cap) := by
        have := nextslicecap_le (need := n + j) (old := cap) (by omega); omega
      simp [Builtin.append_, run_underlying ht, run_underlying hu, sizeOf, typeInfo, zeroValue, hi, hz, hsize, hby, asInt, asIntOf, hw, h0, hj0, Question.forced, newRow, grownCap, hzc, hroom, b1, b2, b3, hfo]
end
end Go.Proofs.YtcdmdkgiabfbeaaGreatDoor

/-
  What is known of the memory, as a finite map from blocks to their contents; plain lemmas, no program in sight.
-/
import Derived.WalkKit
import Derived.Deep.Draws
namespace Go.Proofs.YtcdmdkgiabfbeaaDoor
open Go.RowKit

/-- What is known of the heap. -/
abbrev Mem := Nat → Option Obj

namespace Mem
def set (m : Mem) (b : Nat) (o : Obj) : Mem := fun k => if k = b then some o else m k
def le (m n : Mem) : Prop := ∀ b o, m b = some o → n b = some o
/-- two pieces of memory put together -/
def join (m n : Mem) : Mem := fun k => (m k).orElse fun _ => n k
def apart (m n : Mem) : Prop := ∀ b, m b = none ∨ n b = none

theorem set_same (m : Mem) (b : Nat) (o : Obj) : (m.set b o) b = some o := by simp [set]
theorem set_ne (m : Mem) {b k : Nat} (o : Obj) (h : k ≠ b) : (m.set b o) k = m k := by simp [set, h]
theorem le_refl (m : Mem) : m.le m := fun _ _ h => h
theorem le_trans {a b c : Mem} (h : a.le b) (k : b.le c) : a.le c := fun _ _ x => k _ _ (h _ _ x)
theorem le_set (m : Mem) {b : Nat} (o : Obj) (h : m b = none) : m.le (m.set b o) := by
  intro k x hk
  by_cases e : k = b
  · subst e; rw [h] at hk; cases hk
  · rw [set_ne _ _ e]; exact hk
theorem le_set_of {m n : Mem} (h : m.le n) {b : Nat} (o : Obj) (k : m b = none) : m.le (n.set b o) := by
  intro j x hj
  by_cases e : j = b
  · subst e; rw [k] at hj; cases hj
  · rw [set_ne _ _ e]; exact h _ _ hj
theorem set_mono {m n : Mem} (h : m.le n) (b : Nat) (o : Obj) : (m.set b o).le (n.set b o) := by
  intro k x hk
  by_cases e : k = b
  · subst e; rw [set_same] at hk ⊢; exact hk
  · rw [set_ne _ _ e] at hk ⊢; exact h _ _ hk
theorem set_le {m n : Mem} {b : Nat} {o : Obj} (h : ∀ k x, k ≠ b → m k = some x → n k = some x) (hb : n b = some o) : (m.set b o).le n := by
  intro k x hk
  by_cases e : k = b
  · subst e; rw [set_same] at hk; rw [hb, hk]
  · rw [set_ne _ _ e] at hk; exact h _ _ e hk
theorem set_set (m : Mem) (b : Nat) (o p : Obj) : (m.set b o).set b p = m.set b p := by
  funext k; simp only [set]; split <;> rfl
theorem set_eq (m : Mem) {b : Nat} {o : Obj} (h : m b = some o) : m.set b o = m := by
  funext k; simp only [set]; split
  · subst_vars; exact h.symm
  · rfl
theorem set_comm (m : Mem) {b c : Nat} (o p : Obj) (h : b ≠ c) : (m.set b o).set c p = (m.set c p).set b o := by
  funext k; simp only [set]; split
  · subst_vars; rw [if_neg (Ne.symm h)]
  · rfl
theorem ne_of_none {m : Mem} {b c : Nat} {o : Obj} (h : m b = none) (k : m c = some o) : b ≠ c := by
  intro e; subst e; rw [h] at k; cases k
end Mem

/-- The world bears what is known. -/
def Has (w : World) (m : Mem) : Prop := ∀ b o, m b = some o → w.heap[b]? = some o

/-- The streams and the tape are as they were. -/
structure Env (w w' : World) : Prop where
  os : w'.os = w.os
  tape : w'.tape = w.tape
  output : w'.output = w.output

theorem Env.refl (w : World) : Env w w := ⟨rfl, rfl, rfl⟩
theorem Env.trans {a b c : World} (h : Env a b) (k : Env b c) : Env a c := ⟨k.os.trans h.os, k.tape.trans h.tape, k.output.trans h.output⟩
theorem Env.alloc {a w : World} (h : Env a w) (o : Obj) : Env a (w.alloc o) := ⟨h.os, h.tape, h.output⟩
theorem Env.setCell {a w : World} (h : Env a w) (p : Addr) (v : Value) : Env a (w.setCell p v) := ⟨h.os, h.tape, h.output⟩
theorem Env.drew {a w : World} (h : Env a w) : Env a w.drew := ⟨h.os, h.tape, h.output⟩
theorem Env.drewN {a w : World} (h : Env a w) (n : Nat) : Env a (w.drewN n) := ⟨h.os, h.tape, h.output⟩

namespace Has
variable {w : World} {m : Mem}
theorem le {n : Mem} (h : Has w m) (k : n.le m) : Has w n := fun _ _ x => h _ _ (k _ _ x)
theorem lt (h : Has w m) {b : Nat} {o : Obj} (k : m b = some o) : b < w.heap.size := by
  rcases Nat.lt_or_ge b w.heap.size with x | x
  · exact x
  · have := h b o k; rw [Array.getElem?_eq_none x] at this; cases this
theorem fresh (h : Has w m) {b : Nat} (k : w.heap.size ≤ b) : m b = none := by
  cases hb : m b with
  | none => rfl
  | some o => have := h.lt hb; omega
theorem cell (h : Has w m) {b o : Nat} {c : Array Value} {e : TypeId} {fz : Nat × Nat} (k : m b = some (.cells c e fz)) : w.cell? ⟨b, o, none⟩ = c[o]? := by
  simp [World.cell?, h _ _ k]
theorem froz (h : Has w m) {b o : Nat} {c : Array Value} {e : TypeId} (k : m b = some (.cells c e (0, 0))) : w.frozen? ⟨b, o, none⟩ = false := by
  simp [World.frozen?, h _ _ k]
theorem drew (h : Has w m) : Has w.drew m := h
theorem drewN (h : Has w m) (n : Nat) : Has (w.drewN n) m := h
theorem alloc (h : Has w m) (o : Obj) : Has (w.alloc o) (m.set w.heap.size o) := by
  intro b x hb
  show (w.heap.push o)[b]? = some x
  by_cases e : b = w.heap.size
  · subst e; rw [Mem.set_same] at hb; simp [hb]
  · rw [Mem.set_ne _ _ e] at hb
    have := h.lt hb
    rw [Array.getElem?_push, if_neg (by omega)]; exact h _ _ hb
theorem keep (h : Has w m) (o : Obj) : Has (w.alloc o) m := (h.alloc o).le (Mem.le_set _ _ (h.fresh (Nat.le_refl _)))
theorem store (h : Has w m) {b off : Nat} {c : Array Value} {e : TypeId} {fz : Nat × Nat} (k : m b = some (.cells c e fz)) (v : Value) :
    Has (w.setCell ⟨b, off, none⟩ v) (m.set b (.cells (c.setIfInBounds off v) e fz)) := by
  intro j x hj
  show (w.heap.modify b _)[j]? = some x
  rw [Array.getElem?_modify]
  by_cases e : j = b
  · subst e
    rw [Mem.set_same] at hj
    rw [if_pos rfl, h _ _ k]; simpa using hj
  · rw [Mem.set_ne _ _ e] at hj
    rw [if_neg (by omega)]; exact h _ _ hj
theorem storeTo (h : Has w m) {b off : Nat} {c c' : Array Value} {e : TypeId} {fz : Nat × Nat} (k : m b = some (.cells c e fz)) (v : Value) (hc : c.setIfInBounds off v = c') :
    Has (w.setCell ⟨b, off, none⟩ v) (m.set b (.cells c' e fz)) := hc ▸ h.store k v
/-- a store into a block of which nothing else need be known -/
theorem storeNew (h : Has w m) {p : Addr} (k : m p.block = none) (v : Value) : Has (w.setCell p v) m := by
  intro j x hj
  show (w.heap.modify p.block _)[j]? = some x
  have : j ≠ p.block := fun e => by subst e; rw [k] at hj; cases hj
  rw [Array.getElem?_modify, if_neg (by omega)]; exact h _ _ hj
end Has
end Go.Proofs.YtcdmdkgiabfbeaaDoor

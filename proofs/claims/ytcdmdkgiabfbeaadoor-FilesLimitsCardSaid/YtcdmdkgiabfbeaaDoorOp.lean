/-
  An operation on an open file, by way of with: what it comes to in the store's own words.
-/
import Derived.Test.YtcdmdkgiabfbeaaDoorAbs
namespace Go.Proofs.YtcdmdkgiabfbeaaDoor
open Go.RowKit

namespace Mem
theorem none_le {m n : Mem} (h : m.le n) {b : Nat} (k : n b = none) : m b = none := by
  cases hm : m b with
  | none => rfl
  | some o => rw [h _ _ hm] at k; cases k
theorem none_set {m : Mem} {b c : Nat} {o : Obj} (k : (m.set c o) b = none) : m b = none := by
  by_cases e : b = c
  · subst e; rw [set_same] at k; cases k
  · rwa [set_ne _ _ e] at k
end Mem

/-- The store is another one; what is known of other blocks, but for some of E, stays. -/
def OpR {β : Type} (m : Mem) (sb : Nat) (g : G) (E : Nat → Prop) (F : A × Int × β) (X : Mem → β → Prop) (m2 : Mem) (x : Int) : Prop :=
  ∃ g2, SRep m2 sb g2 ∧ Fr m m2 (fun b => FP sb g b ∨ E b) (FP sb g2) ∧ g2.abs = F.1 ∧ x = F.2.1 ∧ X m2 F.2.2

theorem Fr.glob {m m2 : Mem} {P P' : Nat → Prop} (h : Fr m m2 P P') (hP : ¬ P 0) (hG : GlobOk m) : GlobOk m2 := by
  obtain ⟨c, e, fz, h1, h2⟩ := hG
  exact ⟨c, e, fz, h.keep _ _ h1 hP, h2⟩

theorem FP_tick (sb : Nat) (g : G) : FP sb g.tick = FP sb g := rfl

theorem Fr.tick {m m1 : Mem} {sb : Nat} {g : G} (l : (m.set sb (storeObj g.tick)).le m1) (E : Nat → Prop) : Fr m m1 (fun b => FP sb g b ∨ E b) (fun b => FP sb g b ∨ E b) :=
  (Fr.set _ (.inl (.inl (.inl rfl)))).le l

/-- The frame of an operation, at what was known ahead of its own blocks. -/
theorem OpR.ahead {β : Type} {m0 m m2 : Mem} {sb : Nat} {g : G} {E E' : Nat → Prop} {F : A × Int × β} {X X' : Mem → β → Prop} {x : Int} (h : OpR m sb g E F X m2 x) (l : m0.le m) (hE : ∀ b, E b → m0 b = none) (hX : X m2 F.2.2 → X' m2 F.2.2) :
    OpR m0 sb g E' F X' m2 x := by
  obtain ⟨g2, h1, h2, h3, h4, h5⟩ := h
  refine ⟨g2, h1, ⟨fun b o hb hp => h2.keep b o (l _ _ hb) ?_, fun b hb => ?_⟩, h3, h4, hX h5⟩
  · rintro (x | x)
    · exact hp (.inl x)
    · rw [hE b x] at hb; cases hb
  · rcases h2.new b hb with (x | x) | x
    · exact .inl (.inl x)
    · exact .inr (hE b x)
    · cases hm : m0 b with
      | none => exact .inr rfl
      | some o => rw [l _ _ hm] at x; cases x

theorem Fr.more {m m2 : Mem} {P P' : Nat → Prop} (h : Fr m m2 P P') (E : Nat → Prop) : Fr m m2 (fun b => P b ∨ E b) P' :=
  ⟨fun b o hb hp => h.keep b o hb (fun x => hp (.inl x)), fun b hb => by rcases h.new b hb with x | x; exact .inl (.inl x); exact .inr x⟩

/-- What a closure that with calls comes to. -/
def DoR {β : Type} (w : World) (m : Mem) (sb : Nat) (g : G) (E : Nat → Prop) (F : A × Int × β) (X : Mem → β → Prop) (e : Ending) (w2 : World) : Prop :=
  ∃ ev x m2, e = .returned ev ∧ Has w2 m2 ∧ Env w w2 ∧ ErrIs m2 ev x ∧ OpR m sb g E F X m2 x

theorem with_op {β : Type} (d : β) (f : A → H3 → Fail3 → A × Int × β) (X : Mem → β → Prop) (E : Nat → Prop) (sb : Nat) (id : Int) (g : G) (fn : FuncId) (caps : Array Value) (w : World) (m : Mem) (hm : Has w m) (hr : SRep m sb g) (hG : GlobOk m)
    (h0 : ¬ FP sb g 0) (hE : ¬ E 0) (hn : g.n ≤ 999999) (he : Enters fn)
    (hdo : ∀ (k : Nat) (h : Hnd), g.O[k]? = some (some h) → id = (k : Int) + 1 → ∀ w1 m1, (m.set sb (storeObj g.tick)).le m1 → Has w1 m1 → SRep m1 sb g.tick →
      Calls Tryd.prog fn (#[.pointer (some ⟨h.ob, 0, none⟩), failV g.now] ++ caps) w1 (DoR w1 m1 sb g.tick E (f g.abs.tick h.abs g.now) X))
    (hX : ∀ m1, (m.set sb (storeObj g.tick)).le m1 → X m1 d) :
    Calls Tryd.prog 31 #[.pointer (some ⟨sb, 0, none⟩), .int .i64 id, .func (.func fn) #[] caps] w (Ans w (OpR m sb g E (A.withA g.abs id d f) X)) := by
  have h1 : ∀ m1, (m.set sb (storeObj g.tick)).le m1 → SRep m1 sb g.tick := fun m1 l => hr.count.le l
  have h2 : ∀ m1, (m.set sb (storeObj g.tick)).le m1 → GlobOk m1 := fun m1 l => (Fr.tick l E).glob (by rintro (x | x); exact h0 x; exact hE x) hG
  refine with_any sb id g fn caps w m hm hr hG hn he _ (fun hf h hh w1 m1 l1 hw1 => ?_) (fun hf m1 l1 => ?_) (fun hf hh m1 l1 => ?_)
  · obtain ⟨k, hk, hlt, hO⟩ := hndAt_some hh
    refine (hdo k h (by rw [List.getElem?_eq_getElem hlt, hO]) hk w1 m1 l1 hw1 (h1 m1 l1)).mono ?_
    rintro e w2 ⟨ev, x, m2, rfl, a1, a2, a3, g2, b1, b2, b3, b4, b5⟩
    have hFA : A.withA g.abs id d f = f g.abs.tick h.abs g.now := by
      unfold A.withA
      rw [if_neg (by rw [G.abs_now]; exact fun c => c hf), G.abs_got _ hr.olen, hh]; rfl
    refine ⟨ev, x, m2, rfl, a1, a2, a3, b2.glob ?_ (h2 m1 l1), g2, b1, ?_, by rw [hFA]; exact b3, by rw [hFA]; exact b4, by rw [hFA]; exact b5⟩
    · rintro (x | x)
      · exact h0 x
      · exact hE x
    · exact (Fr.tick l1 E).trans b2
  · have hFA : A.withA g.abs id d f = (g.abs.tick, g.now.2.1, d) := by
      unfold A.withA
      rw [if_pos (by rw [G.abs_now]; exact hf)]; rfl
    rw [hFA]
    exact ⟨g.tick, h1 m1 l1, (Fr.tick l1 E).mono (fun b hb => .inl (.inl hb)), rfl, rfl, hX m1 l1⟩
  · have hFA : A.withA g.abs id d f = (g.abs.tick, -37, d) := by
      unfold A.withA
      rw [if_neg (by rw [G.abs_now]; exact fun c => c hf), G.abs_got _ hr.olen, hh]; rfl
    rw [hFA]
    exact ⟨g.tick, h1 m1 l1, (Fr.tick l1 E).mono (fun b hb => .inl (.inl hb)), rfl, rfl, hX m1 l1⟩

/-- A box of a number. -/
def BoxI (m : Mem) (p : Nat) (n : Int) : Prop := m p = some (.cells #[.int .i64 n] 3 (0, 0))
end Go.Proofs.YtcdmdkgiabfbeaaDoor

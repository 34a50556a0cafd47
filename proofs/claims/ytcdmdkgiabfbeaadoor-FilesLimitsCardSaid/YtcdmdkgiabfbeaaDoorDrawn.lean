/-
  A region that draws its order, and whose last store hits a cell that it loads: what holds of the world is asked behind every operation but the store, and the store waits for each operation that is taken first. After Derived/OrdersHeld.lean, with that one exception.
-/
import Derived.OrdersHeld
import Derived.WalkKit
namespace Go.Proofs.YtcdmdkgiabfbeaaDoor
open Go.RowKit

section
variable {P : Program} {ops : Array Oper} {Q : Exit → Act → World → Prop} {md : Region.Mode} {S : World → Prop}

/-- Whatever order is picked from here on, and S holds behind every operation ahead of number k. -/
def wpAnyK (P : Program) (md : Region.Mode) (ops : Array Oper) (Q : Exit → Act → World → Prop) (S : World → Prop) (k : Nat) : Nat → Array Bool → Act → World → Prop
  | 0, listed, a, w => Region.ready md ops listed = [] ∧ Q .normal a w
  | fuel + 1, listed, a, w =>
    (Region.ready md ops listed = [] → Q .normal a w) ∧
    ∀ i ∈ Region.ready md ops listed, wpOp P ops Q i (fun a' w' => (i < k → S w') ∧ wpAnyK P md ops Q S k fuel (listed.setIfInBounds i true) a' w') a w

theorem wpAny_of_K (k : Nat) : ∀ (fuel : Nat) (listed : Array Bool) (a : Act) (w : World), wpAnyK P md ops Q S k fuel listed a w → wpAny P md ops Q fuel listed a w
  | 0, _, _, _, h => h
  | fuel + 1, _, _, _, h => ⟨h.1, fun i hi => wpOp_mono (fun a' w' h' => wpAny_of_K k fuel _ a' w' h'.2) (h.2 i hi)⟩

/-- Number j waits for i, for one of B, or for one from k on. -/
def Waits (md : Region.Mode) (ops : Array Oper) (k i : Nat) (B : List Nat) (j : Nat) : Prop := ∀ o, ops[j]? = some o → ∃ e ∈ o.after, Region.binds md e = true ∧ (e.on = i ∨ e.on ∈ B ∨ k ≤ e.on)

theorem wpAnyK_first {i k : Nat} {B : List Nat} {oi : Oper} {v : Value} (hi : ops[i]? = some oi) (hsel : ∀ (j : Nat) (o : Oper) cs b, ops[j]? = some o → o.op ≠ .select cs b)
    (hQ : ∀ c a w, Q (.panic c) (a.put oi.dst v) w → Q (.panic c) a w) (hki : i < k) (hk : ∀ j, j ≠ i → (j ∈ B ∨ k ≤ j) → Waits md ops k i B j) :
    ∀ (fuel : Nat) (listed : Array Bool) (a : Act) (w : World),
      (∀ j oj, ops[j]? = some oj → j ≠ i → listed.getD j true = false → (∀ e ∈ oj.after, Region.binds md e = true → e.on ≠ i) → oi.apart ops oj = true) →
      (∀ j, (j ∈ B ∨ k ≤ j) → listed.getD j false = false) →
      i ∈ Region.ready md ops listed → YieldsIf P ops S oi v a → S w →
      wpAnyK P md ops Q S k fuel (listed.setIfInBounds i true) (a.put oi.dst v) w → wpAnyK P md ops Q S k (fuel + 1) listed a w := by
  intro fuel
  induction fuel with
  | zero =>
    intro listed a w _ _ hr hy hS H
    refine ⟨fun h => (by rw [h] at hr; cases hr), fun j hj => ?_⟩
    by_cases hji : j = i
    · subst hji; exact hy.wpOp hi hS ⟨fun _ => hS, H⟩
    · have := ready_mono hj hji
      rw [H.1] at this
      cases this
  | succ fuel ih =>
    intro listed a w hfree hld hr hy hS H
    refine ⟨fun h => (by rw [h] at hr; cases hr), fun j hj => ?_⟩
    by_cases hji : j = i
    · subst hji; exact hy.wpOp hi hS ⟨fun _ => hS, H⟩
    · have h1 := H.2 j (ready_mono hj hji)
      obtain ⟨hjun, oj, hoj, hall⟩ := mem_ready.1 hj
      have hiun : listed.getD i false = false := by
        have h0 := (mem_ready.1 hr).1
        rcases Nat.lt_or_ge i listed.size with h' | h'
        · simp [h'] at h0 ⊢; exact h0
        · simp [Array.getElem?_eq_none h']
      have hun : ∀ q, listed.getD q false = false → ∀ e ∈ oj.after, Region.binds md e = true → e.on ≠ q := fun q h0 e he hb heq => by
        have h1 := hall e he hb
        rw [heq] at h1
        rw [h0] at h1
        cases h1
      have hnot := hun i hiun
      have hjB : ¬ (j ∈ B ∨ k ≤ j) := fun h => by
        obtain ⟨e, he, hb, ho⟩ := hk j hji h oj hoj
        rcases ho with ho | ho
        · exact hnot e he hb ho
        · exact hun e.on (hld _ ho) e he hb rfl
      have h2 := wpOp_putIf hoj (hfree j oj hoj hji hjun hnot) (fun cs b => hsel i oi cs b hi) (fun cs b => hsel j oj cs b hoj) hQ hy h1
      have hfree' : ∀ k ok, ops[k]? = some ok → k ≠ i → (listed.setIfInBounds j true).getD k true = false →
          (∀ e ∈ ok.after, Region.binds md e = true → e.on ≠ i) → oi.apart ops ok = true := fun k ok hk hki hun hno => by
        refine hfree k ok hk hki ?_ hno
        by_cases hjk : j = k
        · subst hjk; exact hjun
        · rw [getD_set_ne true hjk] at hun; exact hun
      have hld' : ∀ q, (q ∈ B ∨ k ≤ q) → (listed.setIfInBounds j true).getD q false = false := fun q hq => by
        have hjq : j ≠ q := fun e => hjB (by rw [e]; exact hq)
        have h0 := hld q hq
        simp only [Array.getD_eq_getD_getElem?, Array.getElem?_setIfInBounds_ne hjq] at h0 ⊢
        exact h0
      refine wpOp_mono (fun a' w' h3 => ⟨fun _ => h3.2.1 (by omega), ih (listed.setIfInBounds j true) a' w' hfree' hld' (ready_mono hr (Ne.symm hji)) h3.1 (h3.2.1 (by omega)) ?_⟩) h2
      rw [Array.setIfInBounds_comm _ _ hji]
      exact h3.2.2

def waitsB (md : Region.Mode) (ops : Array Oper) (k i : Nat) (B : List Nat) (j : Nat) : Bool := match ops[j]? with | some o => o.after.any fun e => Region.binds md e && (e.on == i || (B.contains e.on || decide (k ≤ e.on))) | none => true
theorem waitsB_spec {k i j : Nat} {B : List Nat} (h : waitsB md ops k i B j = true) : Waits md ops k i B j := fun o ho => by
  unfold waitsB at h
  rw [ho] at h
  obtain ⟨e, he, hb⟩ := Array.any_eq_true'.1 h
  simp only [Bool.and_eq_true, Bool.or_eq_true, beq_iff_eq, decide_eq_true_eq, List.contains_iff_mem] at hb
  exact ⟨e, he, hb.1, hb.2⟩

/-- All that wait for number i, by way of others too. -/
def behind (md : Region.Mode) (ops : Array Oper) (i : Nat) : List Nat :=
  (List.range ops.size).foldl (fun B j => if j != i && (match ops[j]? with | some o => o.after.any fun e => Region.binds md e && (e.on == i || B.contains e.on) | none => false) then j :: B else B) []

/-- All from number k on wait for number i. -/
def waitsFor (md : Region.Mode) (ops : Array Oper) (listed : Array Bool) (k i : Nat) : Bool :=
  decide (i < k) && (decide (listed.size ≤ ops.size) && (((List.range (ops.size - k)).all fun j => !(listed.getD (k + j) false) && waitsB md ops k i (behind md ops i) (k + j)) &&
    ((behind md ops i).all fun j => !(listed.getD j false) && waitsB md ops k i (behind md ops i) j)))

theorem wpAnyK_take {i k : Nat} {oi : Oper} {v : Value} {fuel : Nat} {listed : Array Bool} {a : Act} {w : World} (hi : ops[i]? = some oi)
    (hs : Region.noSelect ops = true) (hf : Region.free md ops listed i = true) (hr : (Region.ready md ops listed).contains i = true) (hw : waitsFor md ops listed k i = true)
    (hQ : ∀ c a w, Q (.panic c) (a.put oi.dst v) w → Q (.panic c) a w) (hy : YieldsIf P ops S oi v a) (hS : S w)
    (h : wpAnyK P md ops Q S k fuel (listed.setIfInBounds i true) (a.put oi.dst v) w) : wpAnyK P md ops Q S k (fuel + 1) listed a w := by
  unfold waitsFor at hw
  generalize behind md ops i = B at hw
  simp only [Bool.and_eq_true, decide_eq_true_eq, List.all_eq_true, Bool.not_eq_true', List.mem_range] at hw
  have hri : i ∈ Region.ready md ops listed := by simpa using hr
  obtain ⟨hik, hsz, hun, hB⟩ := hw
  refine wpAnyK_first (B := B) hi (Region.noSelect_spec hs) hQ hik (fun j hji hj => ?_) fuel listed a w (Region.free_spec hi hf) (fun j hj => ?_) hri hy hS h
  · by_cases hjk : k ≤ j
    · rcases Nat.lt_or_ge j ops.size with h1 | h1
      · have := (hun (j - k) (by omega)).2
        rw [show k + (j - k) = j from by omega] at this
        exact waitsB_spec this
      · intro o ho; rw [Array.getElem?_eq_none h1] at ho; cases ho
    · rcases hj with hj | hj
      · exact waitsB_spec (hB j hj).2
      · exact absurd hj hjk
  · by_cases hjk : k ≤ j
    · rcases Nat.lt_or_ge j ops.size with h1 | h1
      · have := (hun (j - k) (by omega)).1
        rw [show k + (j - k) = j from by omega] at this
        exact this
      · simp [Array.getElem?_eq_none (show listed.size ≤ j from by omega)]
    · rcases hj with hj | hj
      · exact (hB j hj).1
      · exact absurd hj hjk

/-- The one that may come up comes up. -/
theorem wpAnyK_one {i k : Nat} {oi : Oper} {fuel : Nat} {listed : Array Bool} {a : Act} {w : World} (hi : ops[i]? = some oi) (hr : Region.ready md ops listed = [i]) (hg : oi.guard = none)
    (h : oi.wp P a w (fun a' w' => (i < k → S w') ∧ wpAnyK P md ops Q S k fuel (listed.setIfInBounds i true) a' w') Q) : wpAnyK P md ops Q S k (fuel + 1) listed a w := by
  refine ⟨fun h0 => (by rw [hr] at h0; cases h0), fun j hj => ?_⟩
  rw [hr] at hj
  obtain rfl := List.mem_singleton.1 hj
  unfold wpOp
  simp only [hi, Region.wanted, hg, if_true]
  exact .inl h

theorem wpAnyK_done {k : Nat} {listed : Array Bool} {a : Act} {w : World} (hr : Region.ready md ops listed = []) (h : Q .normal a w) :
    ∀ fuel, wpAnyK P md ops Q S k fuel listed a w
  | 0 => ⟨hr, h⟩
  | _ + 1 => ⟨fun _ => h, by rw [hr]; simp⟩

theorem wp_region_K (k : Nat) (S : World → Prop) {id : Nat} {a : Act} {w : World} (hm : P.follows .mixedOrders = true)
    (h : wpAnyK P .any ops Q S k ops.size (Array.replicate ops.size false) a w.drew) : (Code.region id ops true).wp P Q a w :=
  wp_region_any hm (wpAny_of_K k _ _ _ _ h)
end
end Go.Proofs.YtcdmdkgiabfbeaaDoor

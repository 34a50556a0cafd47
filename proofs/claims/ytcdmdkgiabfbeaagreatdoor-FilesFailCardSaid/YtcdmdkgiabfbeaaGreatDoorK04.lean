/-
  A region that draws its order, and whose last store hits a cell that it loads: what holds of the world is asked behind every operation but the store, and the store waits for each operation that is taken first. After Derived/OrdersHeld.lean, with that one exception.
-/
import Derived.Test.YtcdmdkgiabfbeaaGreatDoorK03
import Derived.OrdersHeld
import Derived.WalkKit
import Derived.Deep.RegionHeld3
import Derived.Lib.MinMax
import Derived.Lib.BytesEntry
import Derived.Laws.StandIn
import Derived.Deep.Upon
namespace Go.Proofs.YtcdmdkgiabfbeaaGreatDoor
open Go.RowKit

section
variable {P : Program} {ops : Array Oper} {Q : Exit → Act → World → Prop} {md : Region.Mode} {S : World → Prop}

/-- Whatever order is picked from here on, and S holds behind every operation ahead of number k. -/
def wpAnyK (P : Program) (md : Region.Mode) (ops : Array Oper) (Q : Exit → Act → World → Prop) (S : World → Prop) (k : Nat) : Nat → Array Bool → Act → World → Prop
  | 0, listed, a, w => Region.ready md ops listed = [] ∧ Q .normal a w
  | fuel + 1, listed, a, w =>
    (Region.ready md ops listed = [] → Q .normal a w) ∧
    ∀ i ∈ Region.ready md ops listed, wpOp P ops Q i (fun a' w' => (i < k → S w') ∧ wpAnyK P md ops Q S k fuel (listed.setIfInBounds i true) a' w') a w

theorem wpAny_of_K (k : Nat) : ∀ (fuel : Nat) (listed : Array Bool) (a : Act) (w : World), wpAnyK P md ops Q S k fuel listed a w → wpAny P md ops Q fuel listed a w
  | 0, _, _, _, h => h
  | fuel + 1, _, _, _, h => ⟨h.1, fun i hi => wpOp_mono (fun a' w' h' => wpAny_of_K k fuel _ a' w' h'.2) (h.2 i hi)⟩

/-- Number j waits for i, for one of B, or for one from k on. -/
def Waits (md : Region.Mode) (ops : Array Oper) (k i : Nat) (B : List Nat) (j : Nat) : Prop := ∀ o, ops[j]? = some o → ∃ e ∈ o.after, Region.binds md e = true ∧ (e.on = i ∨ e.on ∈ B ∨ k ≤ e.on)

theorem wpAnyK_first {i k : Nat} {B : List Nat} {oi : Oper} {v : Value} (hi : ops[i]? = some oi) (hsel : ∀ (j : Nat) (o : Oper) cs b, ops[j]? = some o → o.op ≠ .select cs b)
    (hQ : ∀ c a w, Q (.panic c) (a.put oi.dst v) w → Q (.panic c) a w) (hki : i < k) (hk : ∀ j, j ≠ i → (j ∈ B ∨ k ≤ j) → Waits md ops k i B j) :
    ∀ (fuel : Nat) (listed : Array Bool) (a : Act) (w : World),
      (∀ j oj, ops[j]? = some oj → j ≠ i → listed.getD j true = false → (∀ e ∈ oj.after, Region.binds md e = true → e.on ≠ i) → oi.apart ops oj = true) →
      (∀ j, (j ∈ B ∨ k ≤ j) → listed.getD j false = false) →
      i ∈ Region.ready md ops listed → YieldsIf P ops S oi v a → S w →
      wpAnyK P md ops Q S k fuel (listed.setIfInBounds i true) (a.put oi.dst v) w → wpAnyK P md ops Q S k (fuel + 1) listed a w := by
  intro fuel
  induction fuel with
  | zero =>
    intro listed a w _ _ hr hy hS H
    refine ⟨fun h => (by rw [h] at hr; cases hr), fun j hj => ?_⟩
    by_cases hji : j = i
    · subst hji; exact hy.wpOp hi hS ⟨fun _ => hS, H⟩
    · have := ready_mono hj hji
      rw [H.1] at this
      cases this
  | succ fuel ih =>
    intro listed a w hfree hld hr hy hS H
    refine ⟨fun h => (by rw [h] at hr; cases hr), fun j hj => ?_⟩
    by_cases hji : j = i
    · subst hji; exact hy.wpOp hi hS ⟨fun _ => hS, H⟩
    · have h1 := H.2 j (ready_mono hj hji)
      obtain ⟨hjun, oj, hoj, hall⟩ := mem_ready.1 hj
      have hiun : listed.getD i false = false := by
        have h0 := (mem_ready.1 hr).1
        rcases Nat.lt_or_ge i listed.size with h' | h'
        · simp [h'] at h0 ⊢; exact h0
        · simp [Array.getElem?_eq_none h']
      have hun : ∀ q, listed.getD q false = false → ∀ e ∈ oj.after, Region.binds md e = true → e.on ≠ q := fun q h0 e he hb heq => by
        have h1 := hall e he hb
        rw [heq] at h1
        rw [h0] at h1
        cases h1
      have hnot := hun i hiun
      have hjB : ¬ (j ∈ B ∨ k ≤ j) := fun h => by
        obtain ⟨e, he, hb, ho⟩ := hk j hji h oj hoj
        rcases ho with ho | ho
        · exact hnot e he hb ho
        · exact hun e.on (hld _ ho) e he hb rfl
      have h2 := wpOp_putIf hoj (hfree j oj hoj hji hjun hnot) (fun cs b => hsel i oi cs b hi) (fun cs b => hsel j oj cs b hoj) hQ hy h1
      have hfree' : ∀ k ok, ops[k]? = some ok → k ≠ i → (listed.setIfInBounds j true).getD k true = false →
          (∀ e ∈ ok.after, Region.binds md e = true → e.on ≠ i) → oi.apart ops ok = true := fun k ok hk hki hun hno => by
        refine hfree k ok hk hki ?_ hno
        by_cases hjk : j = k
        · subst hjk; exact hjun
        · rw [getD_set_ne true hjk] at hun; exact hun
      have hld' : ∀ q, (q ∈ B ∨ k ≤ q) → (listed.setIfInBounds j true).getD q false = false := fun q hq => by
        have hjq : j ≠ q := fun e => hjB (by rw [e]; exact hq)
        have h0 := hld q hq
        simp only [Array.getD_eq_getD_getElem?, Array.getElem?_setIfInBounds_ne hjq] at h0 ⊢
        exact h0
      refine wpOp_mono (fun a' w' h3 => ⟨fun _ => h3.2.1 (by omega), ih (listed.setIfInBounds j true) a' w' hfree' hld' (ready_mono hr (Ne.symm hji)) h3.1 (h3.2.1 (by omega)) ?_⟩) h2
      rw [Array.setIfInBounds_comm _ _ hji]
      exact h3.2.2

def waitsB (md : Region.Mode) (ops : Array Oper) (k i : Nat) (B : List Nat) (j : Nat) : Bool := match ops[j]? with | some o => o.after.any fun e => Region.binds md e && (e.on == i || (B.contains e.on || decide (k ≤ e.on))) | none => true
theorem waitsB_spec {k i j : Nat} {B : List Nat} (h : waitsB md ops k i B j = true) : Waits md ops k i B j := fun o ho => by
  unfold waitsB at h
  rw [ho] at h
  obtain ⟨e, he, hb⟩ := Array.any_eq_true'.1 h
  simp only [Bool.and_eq_true, Bool.or_eq_true, beq_iff_eq, decide_eq_true_eq, List.contains_iff_mem] at hb
  exact ⟨e, he, hb.1, hb.2⟩

/-- All that wait for number i, by way of others too. -/
def behind (md : Region.Mode) (ops : Array Oper) (i : Nat) : List Nat :=
  (List.range ops.size).foldl (fun B j => if j != i && (match ops[j]? with | some o => o.after.any fun e => Region.binds md e && (e.on == i || B.contains e.on) | none => false) then j :: B else B) []

/-- All from number k on wait for number i. -/
def waitsFor (md : Region.Mode) (ops : Array Oper) (listed : Array Bool) (k i : Nat) : Bool :=
  decide (i < k) && (decide (listed.size ≤ ops.size) && (((List.range (ops.size - k)).all fun j => !(listed.getD (k + j) false) && waitsB md ops k i (behind md ops i) (k + j)) &&
    ((behind md ops i).all fun j => !(listed.getD j false) && waitsB md ops k i (behind md ops i) j)))

theorem wpAnyK_take {i k : Nat} {oi : Oper} {v : Value} {fuel : Nat} {listed : Array Bool} {a : Act} {w : World} (hi : ops[i]? = some oi)
    (hs : Region.noSelect ops = true) (hf : Region.free md ops listed i = true) (hr : (Region.ready md ops listed).contains i = true) (hw : waitsFor md ops listed k i = true)
    (hQ : ∀ c a w, Q (.panic c) (a.put oi.dst v) w → Q (.panic c) a w) (hy : YieldsIf P ops S oi v a) (hS : S w)
    (h : wpAnyK P md ops Q S k fuel (listed.setIfInBounds i true) (a.put oi.dst v) w) : wpAnyK P md ops Q S k (fuel + 1) listed a w := by
  unfold waitsFor at hw
  generalize behind md ops i = B at hw
  simp only [Bool.and_eq_true, decide_eq_true_eq, List.all_eq_true, Bool.not_eq_true', List.mem_range] at hw
  have hri : i ∈ Region.ready md ops listed := by simpa using hr
  obtain ⟨hik, hsz, hun, hB⟩ := hw
  refine wpAnyK_first (B := B) hi (Region.noSelect_spec hs) hQ hik (fun j hji hj => ?_) fuel listed a w (Region.free_spec hi hf) (fun j hj => ?_) hri hy hS h
  · by_cases hjk : k ≤ j
    · rcases Nat.lt_or_ge j ops.size with h1 | h1
      · have := (hun (j - k) (by omega)).2
        rw [show k + (j - k) = j from by omega] at this
        exact waitsB_spec this
      · intro o ho; rw [Array.getElem?_eq_none h1] at ho; cases ho
    · rcases hj with hj | hj
      · exact waitsB_spec (hB j hj).2
      · exact absurd hj hjk
  · by_cases hjk : k ≤ j
    · rcases Nat.lt_or_ge j ops.size with h1 | h1
      · have := (hun (j - k) (by omega)).1
        rw [show k + (j - k) = j from by omega] at this
        exact this
      · simp [Array.getElem?_eq_none (show listed.size ≤ j from by omega)]
    · rcases hj with hj | hj
      · exact (hB j hj).1
      · exact absurd hj hjk

/-- The one that may come up comes up. -/
theorem wpAnyK_one {i k : Nat} {oi : Oper} {fuel : Nat} {listed : Array Bool} {a : Act} {w : World} (hi : ops[i]? = some oi) (hr : Region.ready md ops listed = [i]) (hg : oi.guard = none)
    (h : oi.wp P a w (fun a' w' => (i < k → S w') ∧ wpAnyK P md ops Q S k fuel (listed.setIfInBounds i true) a' w') Q) : wpAnyK P md ops Q S k (fuel + 1) listed a w := by
  refine ⟨fun h0 => (by rw [hr] at h0; cases h0), fun j hj => ?_⟩
  rw [hr] at hj
  obtain rfl := List.mem_singleton.1 hj
  unfold wpOp
  simp only [hi, Region.wanted, hg, if_true]
  exact .inl h

theorem wpAnyK_done {k : Nat} {listed : Array Bool} {a : Act} {w : World} (hr : Region.ready md ops listed = []) (h : Q .normal a w) :
    ∀ fuel, wpAnyK P md ops Q S k fuel listed a w
  | 0 => ⟨hr, h⟩
  | _ + 1 => ⟨fun _ => h, by rw [hr]; simp⟩

theorem wp_region_K (k : Nat) (S : World → Prop) {id : Nat} {a : Act} {w : World} (hm : P.follows .mixedOrders = true)
    (h : wpAnyK P .any ops Q S k ops.size (Array.replicate ops.size false) a w.drew) : (Code.region id ops true).wp P Q a w :=
  wp_region_any hm (wpAny_of_K k _ _ _ _ h)
end
end Go.Proofs.YtcdmdkgiabfbeaaGreatDoor

/-
  The functions on one file and one open file: not, size, left, and the copy of bytes.
-/
namespace Go.Proofs.YtcdmdkgiabfbeaaGreatDoor
open Go.RowKit

/-- An open file's mode asked. -/
theorem not_any (ob fb : Nat) (mode pos q : Int) (w : World) (m : Mem) (hm : Has w m)
    (ho : m ob = some (.cells #[.pointer (some ⟨fb, 0, none⟩), .int .i64 mode, .int .i64 pos] 88 (0, 0))) :
    Calls Tryz.prog 36 #[.pointer (some ⟨ob, 0, none⟩), .int .i64 q] w (Post w m fun v m' => ErrIs m' v (if mode = q then -20 else 0)) := by
  have c1 : w.cell? ⟨ob, 1, none⟩ = some (.int .i64 mode) := by rw [hm.cell ho]; rfl
  have H := Lib.hid hm
  clear hm ho
  by_cases h : mode = q
  · have hb : (mode == q) = true := by simpa using h
    have HM := Lib.hid h
    clear h
    rw [if_pos HM.out]
    go_enter Tryz.func36, Tryz.ntmps36
    go_wp2_with fail
    refine (refuse_any (-20) _ _ H.out (by decide)).mono ?_
    rintro e w2 ⟨v, m2, rfl, l2, h2, n2, hv⟩
    have L2 := Lib.hid l2
    have H2 := Lib.hid h2
    have N2 := Lib.hid n2
    have HV := Lib.hid hv
    clear l2 h2 n2 hv
    go_wp2_with fail
    go_ret
    exact Post.mk _ L2.out H2.out N2.out HV.out
  · have hb : (mode == q) = false := by simpa using h
    have HM := Lib.hid h
    clear h
    rw [if_neg HM.out]
    go_enter Tryz.func36, Tryz.ntmps36
    go_wp2_with fail
    go_ret
    exact Post.mk _ (Mem.le_refl _) H.out (Env.refl _) (.inl ⟨rfl, rfl⟩)

/-- A file that is given so many bytes. -/
def resz (bs : List UInt8) (k : Nat) : List UInt8 := bs.take k ++ List.replicate (k - bs.length) 0
theorem resz_length (bs : List UInt8) (k : Nat) : (resz bs k).length = k := by simp [resz]; omega

theorem infoB : (Tryz.prog.info? 5).map (fun i => (i.zero, i.size, i.bytes)) = some (some (.int .u8 0), 1, 1) := by kernel_rfl

set_option maxHeartbeats 1000000 in
theorem size_any (fb : Nat) (bv : Value) (bs : List UInt8) (k : Nat) (w : World) (m : Mem) (hm : Has w m) (hf : m fb = some (.cells #[bv] 80 (0, 0)))
    (hr : Row m bv 5 1 bs.length (bs.map byteV)) (hk : k ≤ 262144) (hb : bs.length ≤ 262144) :
    Calls Tryz.prog 42 #[.pointer (some ⟨fb, 0, none⟩), .int .i64 k] w fun e w' => ∃ bv' m1, e = .returned (.tuple #[]) ∧ Grows m m1 bv bv' ∧
      Has w' (m1.set fb (.cells #[bv'] 80 (0, 0))) ∧ Env w w' ∧ Row (m1.set fb (.cells #[bv'] 80 (0, 0))) bv' 5 1 k ((resz bs k).map byteV) := by
  have c0 : w.cell? ⟨fb, 0, none⟩ = some bv := by rw [hm.cell hf]; rfl
  have f0 : w.frozen? ⟨fb, 0, none⟩ = false := hm.froz hf
  obtain ⟨ba, bc, hbv, hbc⟩ := hr.lenV
  have hno : bv.ownBlock ≠ some fb := fun e => by obtain ⟨cur, fz, hc⟩ := hr.ty e; rw [hf] at hc; simp at hc
  have H := Lib.hid hm
  have HF := Lib.hid hf
  have HR := Lib.hid hr
  have HNO := Lib.hid hno
  clear hm hf hr hno
  by_cases hle : k ≤ bs.length
  · subst hbv
    have HRB := HR.out
    rcases HRB.2 with ⟨h1, h2⟩ | ⟨gb, cap, cur, fz, h1, hg, hth, hnc, hcm, hcs, htk⟩
    · simp only [Value.slice.injEq] at h1
      obtain ⟨rfl, _, rfl⟩ := h1
      have hk0 : k = 0 := by omega
      subst hk0
      clear HRB
      have hl : bs = [] := List.eq_nil_of_length_eq_zero h2
      subst hl
      simp only [List.length_nil] at *
      go_enter Tryz.func42, Tryz.ntmps42
      go_wp2_with fail
      refine bodyPost_ret (results_none rfl _ _ _) rfl ?_
      refine ⟨_, m, rfl, .inl ⟨rfl, rfl⟩, H.out.storeTo HF.out _ rfl, (Env.refl w).setCell _ _, ?_⟩
      exact Row.nil _ _ _
    · simp only [Value.slice.injEq] at h1
      obtain ⟨rfl, _, rfl⟩ := h1
      have HG := Lib.hid hg
      have HTH := Lib.hid hth
      have HTK := Lib.hid htk
      clear HRB hg hth htk
      go_enter Tryz.func42, Tryz.ntmps42
      go_wp2_with fail
      refine bodyPost_ret (results_none rfl _ _ _) rfl ?_
      have hgf : gb ≠ fb := fun e => HNO.out (by rw [e]; rfl)
      have hsz : resz bs k = bs.take k := by unfold resz; rw [show k - bs.length = 0 from by omega]; simp
      refine ⟨.slice (some ⟨gb, 0, none⟩) k k, m, ?_, .inl ⟨rfl, rfl⟩, H.out.storeTo HF.out _ (by simp), (Env.refl w).setCell _ _, ?_⟩
      · rfl
      · rw [hsz]
        refine ⟨by simp; omega, .inr ⟨gb, k, cur, fz, rfl, by rw [Mem.set_ne _ _ hgf]; exact HG.out, HTH.out, Nat.le_refl _, by omega, by omega, ?_⟩⟩
        have := congrArg (List.take k) HTK.out
        rw [List.take_take] at this
        rw [Nat.mul_one] at this ⊢
        rw [Nat.min_eq_left hle] at this
        rw [this, List.map_take]
  · obtain ⟨j, hj⟩ : ∃ j, k = bs.length + j := ⟨k - bs.length, by omega⟩
    have hj0 : 0 < j := by omega
    obtain ⟨i0, hi, hz0, hz1, hz2⟩ := info_parts infoB
    obtain ⟨v', w2, m2, hrun, he2, hh2, hrow2, hgr2⟩ := run_append_zeros (P := Tryz.prog) 26 3 26 5 i0 (.int .u8 0) Tryz.underlying26 Tryz.underlying3 hi hz0 hz1 hz2 rfl rfl (H.out.drewN 1) bv bs.length (bs.map byteV) HR.out j hj0 (by omega)
    obtain ⟨va, vc, rfl, _⟩ := hrow2.lenV
    have hf2 : m2 fb = some (.cells #[bv] 80 (0, 0)) := hgr2.keep HF.out HNO.out
    have d0 : w2.cell? ⟨fb, 0, none⟩ = some bv := by rw [hh2.cell hf2]; rfl
    have d1 : w2.frozen? ⟨fb, 0, none⟩ = false := hh2.froz hf2
    have hjw : IntKind.i64.wrap ((k : Int) - (bs.length : Int)) = (j : Int) := by
      rw [hj]; simp [IntKind.wrap, IntKind.signed, IntKind.bits]; omega
    have HE2 := Lib.hid he2
    have HH2 := Lib.hid hh2
    have HROW := Lib.hid hrow2
    have HGR := Lib.hid hgr2
    have HF2 := Lib.hid hf2
    have HJ := Lib.hid hj
    subst hbv
    clear he2 hh2 hrow2 hgr2 hf2 hi hz0 hz1 hz2 hj
    go_enter Tryz.func42, Tryz.ntmps42
    go_wp2_with fail
    refine wp_region_K 15 (fun w' => w'.cell? ⟨fb, 0, none⟩ = some (.slice ba bs.length bc)) (by kernel_rfl) ?_
    have hS : (fun w' : World => w'.cell? ⟨fb, 0, none⟩ = some (.slice ba bs.length bc)) w.drew := c0
    refine wpAnyK_take (i := 0) (v := ?_) rfl (by kernel_rfl) (by kernel_rfl) (by kernel_rfl) (by kernel_rfl) (fun _ _ _ h => h) (Or.inl ⟨by rfl, ?_⟩) hS ?_
    rotate_left
    · intro w0 hS0; (try dsimp only at hS0); go_simp; try with_reducible rfl
    simp only [Act.put, List.setIfInBounds_toArray, List.set_cons_zero, List.set_cons_succ, List.getElem_toArray, List.getElem_cons_succ, List.getElem_cons_zero]
    refine wpAnyK_take (i := 1) (v := ?_) rfl (by kernel_rfl) (by kernel_rfl) (by kernel_rfl) (by kernel_rfl) (fun _ _ _ h => h) (Or.inl ⟨by rfl, ?_⟩) hS ?_
    rotate_left
    · intro w0 hS0; (try dsimp only at hS0); go_simp; try with_reducible rfl
    simp only [Act.put, List.setIfInBounds_toArray, List.set_cons_zero, List.set_cons_succ, List.getElem_toArray, List.getElem_cons_succ, List.getElem_cons_zero]
    refine wpAnyK_take (i := 2) (v := ?_) rfl (by kernel_rfl) (by kernel_rfl) (by kernel_rfl) (by kernel_rfl) (fun _ _ _ h => h) (Or.inl ⟨by rfl, ?_⟩) hS ?_
    rotate_left
    · intro w0 hS0; (try dsimp only at hS0); go_simp; try with_reducible rfl
    simp only [Act.put, List.setIfInBounds_toArray, List.set_cons_zero, List.set_cons_succ, List.getElem_toArray, List.getElem_cons_succ, List.getElem_cons_zero]
    refine wpAnyK_take (i := 3) (v := ?_) rfl (by kernel_rfl) (by kernel_rfl) (by kernel_rfl) (by kernel_rfl) (fun _ _ _ h => h) (Or.inl ⟨by rfl, ?_⟩) hS ?_
    rotate_left
    · intro w0 hS0; (try dsimp only at hS0); go_simp; try with_reducible rfl
    simp only [Act.put, List.setIfInBounds_toArray, List.set_cons_zero, List.set_cons_succ, List.getElem_toArray, List.getElem_cons_succ, List.getElem_cons_zero]
    refine wpAnyK_take (i := 4) (v := ?_) rfl (by kernel_rfl) (by kernel_rfl) (by kernel_rfl) (by kernel_rfl) (fun _ _ _ h => h) (Or.inl ⟨by rfl, ?_⟩) hS ?_
    rotate_left
    · intro w0 hS0; (try dsimp only at hS0); go_simp; try with_reducible rfl
    simp only [Act.put, List.setIfInBounds_toArray, List.set_cons_zero, List.set_cons_succ, List.getElem_toArray, List.getElem_cons_succ, List.getElem_cons_zero]
    refine wpAnyK_take (i := 5) (v := ?_) rfl (by kernel_rfl) (by kernel_rfl) (by kernel_rfl) (by kernel_rfl) (fun _ _ _ h => h) (Or.inl ⟨by rfl, ?_⟩) hS ?_
    rotate_left
    · intro w0 hS0; (try dsimp only at hS0); go_simp; try with_reducible rfl
    simp only [Act.put, List.setIfInBounds_toArray, List.set_cons_zero, List.set_cons_succ, List.getElem_toArray, List.getElem_cons_succ, List.getElem_cons_zero]
    refine wpAnyK_take (i := 6) (v := ?_) rfl (by kernel_rfl) (by kernel_rfl) (by kernel_rfl) (by kernel_rfl) (fun _ _ _ h => h) (Or.inl ⟨by rfl, ?_⟩) hS ?_
    rotate_left
    · intro w0 hS0; (try dsimp only at hS0); go_simp; try with_reducible rfl
    simp only [Act.put, List.setIfInBounds_toArray, List.set_cons_zero, List.set_cons_succ, List.getElem_toArray, List.getElem_cons_succ, List.getElem_cons_zero]
    refine wpAnyK_take (i := 7) (v := ?_) rfl (by kernel_rfl) (by kernel_rfl) (by kernel_rfl) (by kernel_rfl) (fun _ _ _ h => h) (Or.inl ⟨by rfl, ?_⟩) hS ?_
    rotate_left
    · intro w0 hS0; (try dsimp only at hS0); go_simp; try with_reducible rfl
    simp only [Act.put, List.setIfInBounds_toArray, List.set_cons_zero, List.set_cons_succ, List.getElem_toArray, List.getElem_cons_succ, List.getElem_cons_zero]
    refine wpAnyK_take (i := 8) (v := ?_) rfl (by kernel_rfl) (by kernel_rfl) (by kernel_rfl) (by kernel_rfl) (fun _ _ _ h => h) (Or.inl ⟨by rfl, ?_⟩) hS ?_
    rotate_left
    · intro w0 hS0; (try dsimp only at hS0); go_simp; try with_reducible rfl
    simp only [Act.put, List.setIfInBounds_toArray, List.set_cons_zero, List.set_cons_succ, List.getElem_toArray, List.getElem_cons_succ, List.getElem_cons_zero]
    refine wpAnyK_take (i := 9) (v := ?_) rfl (by kernel_rfl) (by kernel_rfl) (by kernel_rfl) (by kernel_rfl) (fun _ _ _ h => h) (Or.inl ⟨by rfl, ?_⟩) hS ?_
    rotate_left
    · intro w0 hS0; (try dsimp only at hS0); go_simp; try with_reducible rfl
    simp only [Act.put, List.setIfInBounds_toArray, List.set_cons_zero, List.set_cons_succ, List.getElem_toArray, List.getElem_cons_succ, List.getElem_cons_zero]
    refine wpAnyK_take (i := 10) (v := ?_) rfl (by kernel_rfl) (by kernel_rfl) (by kernel_rfl) (by kernel_rfl) (fun _ _ _ h => h) (Or.inl ⟨by rfl, ?_⟩) hS ?_
    rotate_left
    · intro w0 hS0; (try dsimp only at hS0); go_simp; try with_reducible rfl
    simp only [Act.put, List.setIfInBounds_toArray, List.set_cons_zero, List.set_cons_succ, List.getElem_toArray, List.getElem_cons_succ, List.getElem_cons_zero]
    refine wpAnyK_take (i := 11) (v := ?_) rfl (by kernel_rfl) (by kernel_rfl) (by kernel_rfl) (by kernel_rfl) (fun _ _ _ h => h) (Or.inl ⟨by rfl, ?_⟩) hS ?_
    rotate_left
    · intro w0 hS0; (try dsimp only at hS0); go_simp; try with_reducible rfl
    simp only [Act.put, List.setIfInBounds_toArray, List.set_cons_zero, List.set_cons_succ, List.getElem_toArray, List.getElem_cons_succ, List.getElem_cons_zero]
    refine wpAnyK_one (i := 12) rfl (by kernel_rfl) rfl ?_
    refine wp_b2 .append Builtin.append_ (fun _ _ _ _ => rfl) (.tmp 25) (.tmp 32) 26 3 rfl rfl rfl hrun ?_
    refine ⟨fun _ => d0, ?_⟩
    clear hS
    have hS : (fun w' : World => w'.cell? ⟨fb, 0, none⟩ = some (.slice ba bs.length bc)) w2 := d0
    simp only [Act.put, List.setIfInBounds_toArray, List.set_cons_zero, List.set_cons_succ, List.getElem_toArray, List.getElem_cons_succ, List.getElem_cons_zero]
    refine wpAnyK_take (i := 13) (v := ?_) rfl (by kernel_rfl) (by kernel_rfl) (by kernel_rfl) (by kernel_rfl) (fun _ _ _ h => h) (Or.inl ⟨by rfl, ?_⟩) hS ?_
    rotate_left
    · intro w0 hS0; (try dsimp only at hS0); go_simp; try with_reducible rfl
    simp only [Act.put, List.setIfInBounds_toArray, List.set_cons_zero, List.set_cons_succ, List.getElem_toArray, List.getElem_cons_succ, List.getElem_cons_zero]
    refine wpAnyK_take (i := 14) (v := ?_) rfl (by kernel_rfl) (by kernel_rfl) (by kernel_rfl) (by kernel_rfl) (fun _ _ _ h => h) (Or.inl ⟨by rfl, ?_⟩) hS ?_
    rotate_left
    · intro w0 hS0; (try dsimp only at hS0); go_simp; try with_reducible rfl
    simp only [Act.put, List.setIfInBounds_toArray, List.set_cons_zero, List.set_cons_succ, List.getElem_toArray, List.getElem_cons_succ, List.getElem_cons_zero]
    refine wpAnyK_one (i := 15) rfl (by kernel_rfl) rfl ?_
    go_simp
    refine wpAnyK_done (by kernel_rfl) ?_ _
    go_wp2_with fail
    go_end0
    have hj := HJ.out
    subst hj
    have hsz : resz bs (bs.length + j) = bs ++ List.replicate j 0 := by unfold resz; rw [List.take_of_length_le (by omega), show bs.length + j - bs.length = j from by omega]
    refine ⟨rfl, _, m2, HGR.out, HH2.out.storeTo HF2.out _ rfl, ((Env.refl w).drew.trans HE2.out).setCell _ _, ?_⟩
    have hvs : (Value.slice va (bs.length + j) vc).ownBlock ≠ some fb := fun e => by
      obtain ⟨cur, fz, hc⟩ := HROW.out.ty e; rw [HF2.out] at hc; simp at hc
    have := HROW.out.set_other (.cells #[.slice va (bs.length + j) vc] 80 (0, 0)) hvs
    rw [hsz, List.map_append, List.map_replicate]
    exact this
end Go.Proofs.YtcdmdkgiabfbeaaGreatDoor

/-
  left: the window of a file from an open file's position on.
-/
namespace Go.Proofs.YtcdmdkgiabfbeaaGreatDoor
open Go.RowKit

/-- What an open file has from its position on, at most so much. -/
def leftL (bs : List UInt8) (pos : Nat) (most short : Int) : List UInt8 := (bs.drop pos).take (if 0 < short then min most short else most).toNat

/-- A window of bytes, somewhere in a block. -/
def Wind (m : Mem) (v : Value) (xs : List UInt8) : Prop :=
  (v = .slice none 0 0 ∧ xs = []) ∨ ∃ g o cap, v = .slice (some ⟨g, o, none⟩) xs.length cap ∧ xs.length ≤ cap ∧ cap ≤ maxLen ∧ Cells m g o (xs.map byteV)
theorem Wind.le {m m' : Mem} {v : Value} {xs : List UInt8} (h : Wind m v xs) (l : m.le m') : Wind m' v xs := by
  rcases h with h | ⟨g, o, cap, h1, h2, h3, h4⟩
  · exact .inl h
  · exact .inr ⟨g, o, cap, h1, h2, h3, h4.le l⟩

/-- .. or of none, wherever it lies. -/
def WindZ (m : Mem) (v : Value) (xs : List UInt8) : Prop :=
  (∃ a cap, v = .slice a 0 cap ∧ xs = []) ∨ ∃ g o cap, v = .slice (some ⟨g, o, none⟩) xs.length cap ∧ 0 < xs.length ∧ Cells m g o (xs.map byteV)
theorem Wind.z {m : Mem} {v : Value} {xs : List UInt8} (h : Wind m v xs) : WindZ m v xs := by
  rcases h with ⟨h1, h2⟩ | ⟨g, o, cap, h1, h2, h3, h4⟩
  · exact .inl ⟨none, 0, h1, h2⟩
  · rcases Nat.eq_zero_or_pos xs.length with h0 | h0
    · exact .inl ⟨_, _, by rw [h1, h0], List.eq_nil_of_length_eq_zero h0⟩
    · exact .inr ⟨g, o, cap, h1, h0, h4⟩
theorem WindZ.le {m m' : Mem} {v : Value} {xs : List UInt8} (h : WindZ m v xs) (l : m.le m') : WindZ m' v xs := by
  rcases h with h | ⟨g, o, cap, h1, h2, h4⟩
  · exact .inl h
  · exact .inr ⟨g, o, cap, h1, h2, h4.le l⟩

theorem leftL_nil (pos : Nat) (most short : Int) : leftL [] pos most short = [] := by simp [leftL]

theorem sizeB : (Tryz.prog.info? 5).map (·.size) = some 1 := by kernel_rfl

/-- The block that a slice lies in. -/
def _root_.Go.Value.ownBlk : Value → Option Nat | .slice (some a) _ _ => some a.block | _ => none

/-- A slice's block is one of bytes. -/
def TypB (m : Mem) (v : Value) : Prop := ∀ g o n c, v = .slice (some ⟨g, o, none⟩) n c → ∃ cur fz, m g = some (.cells cur 5 fz)
theorem TypB.le {m m' : Mem} {v : Value} (h : TypB m v) (l : m.le m') : TypB m' v := fun g o n c hv => by
  obtain ⟨cur, fz, hg⟩ := h g o n c hv
  exact ⟨cur, fz, l _ _ hg⟩
theorem Wind.set {m : Mem} {v : Value} {xs : List UInt8} (h : Wind m v xs) (ht : TypB m v) {b : Nat} {c1 : Array Value} {e1 : TypeId} {fz1 : Nat × Nat} (hb : m b = some (.cells c1 e1 fz1)) (he : e1 ≠ 5) (o : Obj) : Wind (m.set b o) v xs := by
  rcases h with h | ⟨g, p, cap, h1, h2, h3, c, e, fz, h4, h5⟩
  · exact .inl h
  · refine .inr ⟨g, p, cap, h1, h2, h3, c, e, fz, ?_, h5⟩
    rw [Mem.set_ne]
    · exact h4
    · intro e; subst e
      obtain ⟨cur, fz, hc⟩ := ht _ _ _ _ h1
      rw [hb] at hc
      simp only [Option.some.injEq, Obj.cells.injEq] at hc
      exact he hc.2.1
theorem TypB.set {m : Mem} {v : Value} (ht : TypB m v) {b : Nat} {c1 : Array Value} {e1 : TypeId} {fz1 : Nat × Nat} (hb : m b = some (.cells c1 e1 fz1)) (he : e1 ≠ 5) (o : Obj) : TypB (m.set b o) v := fun g p n c hv => by
  obtain ⟨cur, fz, hc⟩ := ht g p n c hv
  refine ⟨cur, fz, ?_⟩
  rw [Mem.set_ne]
  · exact hc
  · intro e; subst e
    rw [hb] at hc
    simp only [Option.some.injEq, Obj.cells.injEq] at hc
    exact he hc.2.1

/-- A window in a row of bytes. -/
theorem wind_of {m : Mem} {gb n : Nat} {bs : List UInt8} (hc : Cells m gb 0 (bs.map byteV)) (p k : Nat) (hk : k = ((bs.drop p).take n).length) (l : Addr)
    (hl : l = ⟨gb, p, none⟩ ∨ k = 0 ∧ l = ⟨gb, 0, none⟩) (c : Nat) (hkc : k ≤ c) (hcc : c ≤ maxLen) : Wind m (.slice (some l) k c) ((bs.drop p).take n) := by
  rcases hl with rfl | ⟨h0, rfl⟩
  · refine .inr ⟨gb, p, c, by rw [← hk], by omega, hcc, ?_⟩
    obtain ⟨cc, e, fz, h1, h2⟩ := hc
    refine ⟨cc, e, fz, h1, fun j u hj => ?_⟩
    have := h2 (p + j) u ?_
    · rwa [Nat.zero_add] at this
    · rw [List.getElem?_map] at hj ⊢
      rw [List.getElem?_take] at hj
      split at hj
      · rwa [List.getElem?_drop] at hj
      · simp at hj
  · have h1 : (bs.drop p).take n = [] := List.eq_nil_of_length_eq_zero (by omega)
    rw [h1]
    obtain ⟨cc, e, fz, hg, _⟩ := hc
    exact .inr ⟨gb, 0, c, by rw [h0]; rfl, by simp, hcc, cc, e, fz, hg, fun j u hj => by simp at hj⟩

theorem left_wind {m : Mem} {gb cap pos : Nat} {bs : List UInt8} (hc : Cells m gb 0 (bs.map byteV)) (hnc : bs.length ≤ cap) (hcm : cap ≤ maxLen) (M : Int) (l : Addr)
    (hl : l = ⟨gb, (min (pos : Int) bs.length).toNat, none⟩ ∨ cap = (min (pos : Int) bs.length).toNat ∧ l = ⟨gb, 0, none⟩) (k c : Nat)
    (hk : k = (min ((bs.length - (min (pos : Int) bs.length).toNat : Nat) : Int) (max M 0)).toNat) (hcc : c = cap - (min (pos : Int) bs.length).toNat) :
    Wind m (.slice (some l) k c) ((bs.drop pos).take M.toNat) := by
  have hd : bs.drop pos = bs.drop (min (pos : Int) bs.length).toNat := by
    by_cases h : pos ≤ bs.length
    · rw [show (min (pos : Int) bs.length).toNat = pos from by omega]
    · rw [List.drop_of_length_le (by omega), List.drop_of_length_le (by omega)]
  rw [hd]
  refine wind_of hc _ k ?_ l ?_ c (by omega) (by omega)
  · rw [List.length_take, List.length_drop]; omega
  · rcases hl with h | ⟨h1, h2⟩
    · exact .inl h
    · exact .inr ⟨by omega, h2⟩

set_option maxHeartbeats 1000000 in
theorem left_any (ob fb pos : Nat) (mode most op ior short : Int) (bv : Value) (bs : List UInt8) (w : World) (m : Mem) (hm : Has w m)
    (ho : m ob = some (.cells #[.pointer (some ⟨fb, 0, none⟩), .int .i64 mode, .int .i64 pos] 88 (0, 0)))
    (hf : m fb = some (.cells #[bv] 80 (0, 0))) (hr : Row m bv 5 1 bs.length (bs.map byteV)) (hb : bs.length ≤ 262144) (hp : pos ≤ 262144) :
    Calls Tryz.prog 38 #[.pointer (some ⟨ob, 0, none⟩), .int .i64 most, .agg #[.int .i64 op, .int .i64 ior, .int .i64 short]] w
      (Post w m fun v _ => Wind m v (leftL bs pos most short) ∧ TypB m v) := by
  have c0 : w.cell? ⟨ob, 0, none⟩ = some (.pointer (some ⟨fb, 0, none⟩)) := by rw [hm.cell ho]; rfl
  have c2 : w.cell? ⟨ob, 2, none⟩ = some (.int .i64 pos) := by rw [hm.cell ho]; rfl
  have d0 : w.cell? ⟨fb, 0, none⟩ = some bv := by rw [hm.cell hf]; rfl
  have l1 := hm.lt ho
  have l2 := hm.lt hf
  have H := Lib.hid hm
  have HR := Lib.hid hr
  clear hm ho hf hr
  have HRB := HR.out
  rcases HRB.2 with ⟨rfl, h2⟩ | ⟨gb, cap, cur, fz, rfl, hg, hth, hnc, hcm, hcs, htk⟩
  · have hl : bs = [] := List.eq_nil_of_length_eq_zero h2
    subst hl
    clear HRB h2 hb
    rw [leftL_nil]
    by_cases hs : 0 < short
    all_goals
      go_enter Tryz.func38, Tryz.ntmps38
      go_wp2_with fail
      go_quiet (fail)
      go_wp2_with fail
      go_ret
      exact Post.mk m (Mem.le_refl _) ((H.out.keep _).drewN _) (((Env.refl w).alloc _).drewN _) ⟨.inl ⟨congrArg (fun k => Value.slice none k 0) (by omega), rfl⟩, fun g o n c hv => by cases hv⟩
  · have HCE := Lib.hid HRB.cells
    have HGT : Hid (∃ cur fz, m gb = some (.cells cur 5 fz)) := ⟨cur, fz, hg⟩
    clear HRB hg hth hcs htk fz cur
    have hb2 : bs.length ≤ cap := hnc
    by_cases hs : 0 < short
    · have HL := Lib.hid (show leftL bs pos most short = (bs.drop pos).take (min most short).toNat from by unfold leftL; rw [if_pos hs])
      go_enter Tryz.func38, Tryz.ntmps38
      go_wp2_with fail
      go_quiet (fail)
      go_wp2_with fail
      all_goals
        go_ret
        refine Post.mk m (Mem.le_refl _) ((H.out.keep _).drewN _) (((Env.refl w).alloc _).drewN _) ?_
        rw [HL.out]
        refine ⟨left_wind HCE.out hnc hcm _ _ (by first | exact .inl rfl | exact .inr ⟨by assumption, rfl⟩) _ _ (by omega) (by omega), fun g o n c hv => ?_⟩
        have hv' : some gb = some g := congrArg Value.ownBlk hv
        rw [← Option.some.inj hv']
        exact HGT.out
    · have HL := Lib.hid (show leftL bs pos most short = (bs.drop pos).take most.toNat from by unfold leftL; rw [if_neg hs])
      go_enter Tryz.func38, Tryz.ntmps38
      go_wp2_with fail
      go_quiet (fail)
      go_wp2_with fail
      all_goals
        go_ret
        refine Post.mk m (Mem.le_refl _) ((H.out.keep _).drewN _) (((Env.refl w).alloc _).drewN _) ?_
        rw [HL.out]
        refine ⟨left_wind HCE.out hnc hcm _ _ (by first | exact .inl rfl | exact .inr ⟨by assumption, rfl⟩) _ _ (by omega) (by omega), fun g o n c hv => ?_⟩
        have hv' : some gb = some g := congrArg Value.ownBlk hv
        rw [← Option.some.inj hv']
        exact HGT.out
end Go.Proofs.YtcdmdkgiabfbeaaGreatDoor

/-
  slices.Clone of bytes, bytes.IndexByte: at a window.
-/
namespace Go.Proofs.YtcdmdkgiabfbeaaGreatDoor
open Go.RowKit

section
variable {P : Program} {w : World} {m : Mem}
/-- append of a window of bytes. -/
theorem run_append_wind (t ty e : TypeId) (i : TypeInfo) (z : Value) (ht : P.underlying t = some (.slice e)) (hi : P.info? e = some i) (hz : i.zero = some z)
    (hsize : i.size = 1) (hby : i.bytes = 1) (hzs : z.cells.size = 1) (hm : Has w m)
    (v : Value) (n : Nat) (xs : List Value) (hrow : Row m v e 1 n xs) (y : Value) (ys : List UInt8) (hy : Wind m y ys) (hmax : n + ys.length ≤ 1000000000) :
    ∃ v' w' m', (Builtin.append_ #[t, t] ty #[v, y]).run P w = .ok v' w' ∧ Env w w' ∧ Has w' m' ∧ Row m' v' e 1 (n + ys.length) (xs ++ ys.map byteV) ∧ Grows m m' v v' := by
  have nothing : ys = [] → (∃ v' w' m', (Builtin.append_ #[t, t] ty #[v, y]).run P w = .ok v' w' ∧ Env w w' ∧ Has w' m' ∧ Row m' v' e 1 (n + ys.length) (xs ++ ys.map byteV) ∧ Grows m m' v v') := fun h0 => by
    subst h0
    have hs : Src P i.size t y 0 [] w := by
      rcases hy with ⟨rfl, _⟩ | ⟨g, o, cap, rfl, _⟩
      · exact Src.ofNil w ht 0
      · exact Src.ofSlice w ht ⟨g, o, none⟩ 0 cap [] (by simp) (by simp) (by simp)
    obtain ⟨va, vc, rfl, hle⟩ := hrow.lenV
    exact ⟨_, _, _, run_append_nothing w t t ty e i ht hi va n vc hle y hs, Env.refl _, hm, by simpa using hrow, .inl ⟨rfl, rfl⟩⟩
  rcases Nat.eq_zero_or_pos ys.length with h0 | h0
  · exact nothing (List.eq_nil_of_length_eq_zero h0)
  · rcases hy with ⟨rfl, h⟩ | ⟨g, o, cap, rfl, hc, _, hcells⟩
    · subst h; cases h0
    · exact run_append_row (P := P) t ty e i z 1 1 ht hi hz hsize hby hzs (by decide) hm v n xs hrow g o ys.length cap (ys.map byteV) (by simp) hcells
        (fun u hu => by obtain ⟨_, _, rfl⟩ := List.mem_map.1 hu; rfl) h0 (by omega) (by omega)
end

theorem row_wind {m : Mem} {v : Value} {bs : List UInt8} (h : Row m v 5 1 bs.length (bs.map byteV)) : Wind m v bs := by
  have hh := h
  rcases hh.2 with ⟨rfl, h2⟩ | ⟨gb, cap, cur, fz, rfl, hg, hth, hnc, hcm, hcs, htk⟩
  · exact .inl ⟨rfl, List.eq_nil_of_length_eq_zero h2⟩
  · exact .inr ⟨gb, 0, cap, rfl, hnc, hcm, h.cells⟩

theorem nilB (a : Addr) (n c : Nat) (w : World) : (binOp .eql 26 (.slice (some a) n c) (.slice none 0 0)).run Tryz.prog w = .ok (.bool false) w := by kernel_rfl

theorem nilNil (w : World) : (binOp .eql 26 (.slice none 0 0) (.slice none 0 0)).run Tryz.prog w = .ok (.bool true) w := by kernel_rfl

set_option maxHeartbeats 1000000 in
set_option maxRecDepth 100000 in
theorem cloneB_any (y : Value) (ys : List UInt8) (w : World) (m : Mem) (hm : Has w m) (hy : Wind m y ys) (hl : ys.length ≤ 1000000) :
    Calls Tryz.prog 37 #[y] w (Post w m fun v m' => Row m' v 5 1 ys.length (ys.map byteV) ∧ ∀ b, v.ownBlock = some b → m b = none) := by
  have H := Lib.hid hm
  have HY := Lib.hid hy
  rcases hy with ⟨rfl, h⟩ | ⟨g, o, cap, rfl, hc, hcm, hcells⟩
  · subst h
    have hnn := nilNil
    clear hm
    go_enter Tryz.func37, Tryz.ntmps37
    go_wp2_with fail
    go_ret
    exact Post.mk _ (Mem.le_refl _) H.out (Env.refl _) ⟨Row.nil _ _ _, fun b hb => by cases hb⟩
  · have hnb := nilB ⟨g, o, none⟩ ys.length cap
    have h1 := hm.alloc (.cells #[] 5)
    have k1 := Mem.le_set m (.cells #[] 5) (hm.fresh (Nat.le_refl _))
    obtain ⟨i0, hi, hz0, hz1, hz2⟩ := info_parts infoB
    have r0 : Row (m.set w.heap.size (.cells #[] 5)) (.slice (some ⟨w.heap.size, 0, none⟩) 0 0) 5 1 0 [] :=
      ⟨by simp, .inr ⟨w.heap.size, 0, #[], (0, 0), rfl, Mem.set_same _ _ _, Thaw.zero _, Nat.le_refl _, by decide, by simp, rfl⟩⟩
    obtain ⟨v', w2, m2, hrun, he2, hh2, hrow2, hgr2⟩ := run_append_wind (P := Tryz.prog) 26 26 5 i0 (.int .u8 0) Tryz.underlying26 hi hz0 hz1 hz2 rfl h1 _ 0 [] r0 _ ys (HY.out.le k1) (by omega)
    have HFR := Lib.hid (hm.fresh (Nat.le_refl w.heap.size))
    have K1 := Lib.hid k1
    have HE2 := Lib.hid he2
    have HH2 := Lib.hid hh2
    have HROW := Lib.hid hrow2
    have HGR := Lib.hid hgr2
    clear hm hcells h1 k1 r0 hi hz0 hz1 hz2 he2 hh2 hrow2 hgr2
    go_enter Tryz.func37, Tryz.ntmps37
    go_wp2_with (at_builtin; refine wpList_b2 rfl .append Builtin.append_ (fun _ _ _ _ => rfl) _ _ _ _ rfl rfl rfl hrun ?_)
    go_ret
    have hle : m.le m2 := fun b ob hb => HGR.out.keep (K1.out _ _ hb) (fun e => by
      simp only [Value.ownBlock, Option.some.injEq] at e
      subst e; rw [HFR.out] at hb; cases hb)
    refine Post.mk m2 hle HH2.out (((Env.refl w).alloc _).trans HE2.out) ⟨by simpa using HROW.out, fun b hb => ?_⟩
    change v'.ownBlock = some b at hb
    cases hmb : m b with
    | none => rfl
    | some ob =>
      exfalso
      have h3 : b = w.heap.size ∨ (m.set w.heap.size (.cells #[] 5)) b = none := by
        rcases HGR.out with ⟨_, h2⟩ | ⟨gb, oo, h1, _, h3⟩
        · rw [h2] at hb; exact .inl (Option.some.inj hb).symm
        · rw [h1] at hb
          obtain rfl := Option.some.inj hb
          rcases h3 with h3 | h3
          · exact .inl (Option.some.inj h3).symm
          · exact .inr h3
      rcases h3 with h3 | h3
      · subst h3; rw [HFR.out] at hmb; cases hmb
      · rw [K1.out _ _ hmb] at h3; cases h3

theorem bytes_back (xs : List UInt8) : Lib.bytesOf (xs.map fun x => (x.toNat : Int)) = xs := by
  simp only [Lib.bytesOf, List.map_map]
  conv => rhs; rw [← List.map_id xs]
  refine List.map_congr_left fun x _ => ?_
  simp

set_option maxHeartbeats 1000000 in
set_option maxRecDepth 100000 in
theorem indexB_any (y : Value) (ys : List UInt8) (w : World) (m : Mem) (hm : Has w m) (hy : Wind m y ys) :
    Calls Tryz.prog 75 #[y, .int .u8 10] w fun e w' => e = .returned (.int .i64 (Lib.indexByte ys 10)) ∧ w' = w := by
  rcases hy with ⟨rfl, h⟩ | ⟨g, o, cap, rfl, hc, hcm, hcells⟩
  · subst h
    clear hm
    go_enter Tryz.func75, Tryz.ntmps75
    go_wp2
    rw [run_callFunc_extern Tryz.func101 (by kernel_rfl) (by kernel_rfl) (by kernel_rfl) (e := Extern.BytealgIndexByte.indexByte) (by kernel_rfl), Lib.run_indexByteNil w 0 0 10]
    simp only [Result.andThen]
    rw [Oper.upon_value]
    go_wp2
    go_ret
    exact ⟨rfl, rfl⟩
  · have hcs : ∀ i, i < ys.length → w.cell? ⟨g, o + i, none⟩ = some (.int .u8 ((ys.map fun x => (x.toNat : Int)).getD i 0)) := fun i hi => by
      obtain ⟨c, e, fz, h1, h2⟩ := hcells
      rw [hm.cell h1]
      refine h2 i _ ?_
      simp [hi, byteV, List.getD_eq_getElem?_getD]
    have hr := Lib.run_indexByteSlice (P := Tryz.prog) w g o ys.length cap (ys.map fun x => (x.toNat : Int)) (by simp) hcs 10
    rw [bytes_back] at hr
    clear hm hcells hcs
    go_enter Tryz.func75, Tryz.ntmps75
    go_wp2
    rw [run_callFunc_extern Tryz.func101 (by kernel_rfl) (by kernel_rfl) (by kernel_rfl) (e := Extern.BytealgIndexByte.indexByte) (by kernel_rfl), hr]
    simp only [Result.andThen]
    rw [Oper.upon_value]
    go_wp2
    go_ret
    exact ⟨rfl, rfl⟩
end Go.Proofs.YtcdmdkgiabfbeaaGreatDoor

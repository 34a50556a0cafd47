/-
  Open.
-/
import Derived.Test.YtcdmdkgiabfbeaaGreatDoorK07
import Derived.Test.YtcdmdkgiabfbeaaGreatDoorK03
import Derived.Test.YtcdmdkgiabfbeaaGreatDoorK06
import Derived.Laws.IdiomStrings
namespace Go.Proofs.YtcdmdkgiabfbeaaGreatDoor
open Go.RowKit

namespace A
/-- The lowest number that is free, less 1. -/
def free (a : A) : Option Nat := (List.range 32).find? fun i => (a.hnd i).isNone
def openX (a : A) (s : ByteArray) (mode : Int) : Int :=
  if a.now.2.1 ≠ 0 then a.now.2.1 else if isNameB s = false then -38 else if modeB mode = false then -20 else if (a.look s).isNone then -38 else if a.free.isNone then -8 else 0
def openF (a : A) (s : ByteArray) (mode : Int) : A × Int × Int :=
  if a.openX s mode ≠ 0 then (a.tick, a.openX s mode, 0) else (a.tick.setH (a.free.getD 0) (some (s, mode, 0)), 0, (a.free.getD 0 : Int) + 1)
end A

theorem nOpen_eq {O : List (Option Hnd)} (h : firstNone O = none) : nOpen O = O.length := by
  unfold firstNone at h
  rw [List.findIdx?_eq_none_iff] at h
  unfold nOpen
  rw [List.filter_eq_self.2]
  intro x hx
  have := h x hx
  cases x <;> simp_all
theorem nOpen_lt {O : List (Option Hnd)} {i : Nat} (h : firstNone O = some i) : nOpen O < O.length := by
  obtain ⟨hi, hn⟩ := firstNone_lt h
  rcases Nat.lt_or_ge (nOpen O) O.length with x | x
  · exact x
  · have : O.filter Option.isSome = O := List.Sublist.eq_of_length_le List.filter_sublist x
    have h2 : O[i] ∈ O.filter Option.isSome := by rw [this]; exact List.getElem_mem hi
    rw [List.mem_filter, hn] at h2
    simp at h2

theorem abs_free {m : Mem} {sb : Nat} {g : G} (r : SRep m sb g) : g.abs.free = if fullB g.O then none else some (addI g.O) := by
  have hl := r.olen
  have hh : ∀ i, ((g.abs.hnd i).isNone = ((g.O[i]?).join).isNone) := fun i => by
    show (((g.O[i]?).join).map Hnd.abs).isNone = _
    cases (g.O[i]?).join <;> rfl
  unfold A.free
  cases hf : firstNone g.O with
  | some i =>
    have hlt := nOpen_lt hf
    have h1 : fullB g.O = false := by unfold fullB; simp; omega
    rw [h1, if_neg (by simp)]
    obtain ⟨hi, hn⟩ := firstNone_lt hf
    have hI : addI g.O = i := by unfold addI; rw [hf]
    rw [hI, List.find?_eq_some_iff_getElem]
    have hf2 := hf
    unfold firstNone at hf2
    rw [List.findIdx?_eq_some_iff_getElem] at hf2
    obtain ⟨_, _, hall⟩ := hf2
    refine ⟨by rw [hh, List.getElem?_eq_getElem hi, hn]; rfl, i, by simp; omega, by simp, fun j hj => ?_⟩
    rw [List.getElem_range, hh, List.getElem?_eq_getElem (by omega)]
    have := hall j hj
    cases hx : g.O[j] with
    | none => rw [hx] at this; simp at this
    | some x => rfl
  | none =>
    have he := nOpen_eq hf
    have hI : addI g.O = g.O.length := by unfold addI; rw [hf]
    have hsome : ∀ i (hi : i < g.O.length), (g.O[i]).isNone = false := fun i hi => by
      unfold firstNone at hf
      rw [List.findIdx?_eq_none_iff] at hf
      exact hf _ (List.getElem_mem hi)
    by_cases h32 : g.O.length = 32
    · have h1 : fullB g.O = true := by unfold fullB; simp; omega
      rw [h1, if_pos rfl, List.find?_eq_none]
      intro j hj
      rw [List.mem_range] at hj
      rw [hh, List.getElem?_eq_getElem (by omega)]
      have := hsome j (by omega)
      cases hx : g.O[j] with
      | none => rw [hx] at this; simp at this
      | some x => simp
    · have h1 : fullB g.O = false := by unfold fullB; simp; omega
      rw [h1, if_neg (by simp), hI, List.find?_eq_some_iff_getElem]
      refine ⟨by rw [hh, List.getElem?_eq_none (Nat.le_refl _)]; rfl, g.O.length, by simp; omega, by simp, fun j hj => ?_⟩
      rw [List.getElem_range, hh, List.getElem?_eq_getElem hj]
      have := hsome j hj
      cases hx : g.O[j] with
      | none => rw [hx] at this; simp at this
      | some x => rfl

theorem abs_add {g : G} {h : Hnd} (ov : Value) : ({ g with ov := ov, O := addO g.O h } : G).abs = g.abs.setH (addI g.O) (some h.abs) := by
  simp only [G.abs, A.setH, A.mk.injEq, true_and, and_true]
  funext i
  unfold addO addI
  cases hf : firstNone g.O with
  | some j =>
    obtain ⟨hj, _⟩ := firstNone_lt hf
    simp only
    rw [List.getElem?_set]
    by_cases e : j = i
    · subst e; rw [if_pos rfl, if_pos hj]; simp
    · rw [if_neg e, if_neg (Ne.symm e)]
  | none =>
    simp only
    by_cases e : i = g.O.length
    · subst e
      rw [if_pos rfl, List.getElem?_append_right (Nat.le_refl _)]; simp
    · rw [if_neg e]
      rcases Nat.lt_or_ge i g.O.length with h1 | h1
      · rw [List.getElem?_append_left h1]
      · rw [List.getElem?_eq_none (by simp; omega), List.getElem?_eq_none h1]

theorem firstOf_open (a : A) (s : ByteArray) (mode : Int) (c1 c2 c3 c4 : Value) :
    firstOf a.now.2.1 [(c1, -38, !isNameB s), (c2, -20, !modeB mode), (c3, -38, (a.look s).isNone), (c4, -8, a.free.isNone)] = a.openX s mode := by
  unfold A.openX
  by_cases h0 : a.now.2.1 = 0
  · cases isNameB s <;> cases modeB mode <;> cases (a.look s).isNone <;> cases a.free.isNone <;> simp [firstOf, h0]
  · simp [firstOf, h0]

theorem openX_zero {a : A} {s : ByteArray} {mode : Int} (h : a.openX s mode = 0) : a.now.2.1 = 0 ∧ isNameB s = true ∧ modeB mode = true ∧ (a.look s).isNone = false ∧ a.free.isNone = false := by
  unfold A.openX at h
  by_cases h0 : a.now.2.1 = 0
  · rw [if_neg (fun c => c h0)] at h
    cases h1 : isNameB s <;> cases h2 : modeB mode <;> cases h3 : (a.look s).isNone <;> cases h4 : a.free.isNone <;> simp_all
  · rw [if_pos h0] at h; exact absurd h h0

set_option maxHeartbeats 4000000 in
theorem open_any (sb : Nat) (s : ByteArray) (mode : Int) (g : G) (w : World) (m : Mem) (hm : Has w m) (hr : SRep m sb g) (hG : GlobOk m) (h0 : ¬ FP sb g 0) (hn : g.n ≤ 999999) :
    Calls Tryz.prog 23 #[.pointer (some ⟨sb, 0, none⟩), .string s, .int .i64 mode] w
      (AnsB w fun v m2 x => OpR m sb g (fun _ => False) (g.abs.openF s mode) (fun _ i => v = .int .i64 i) m2 x) := by
  have hfr := hm.fresh (Nat.le_refl w.heap.size)
  have h1 := hm.alloc (.cells #[.pointer (some ⟨sb, 0, none⟩)] 25)
  have l1 := Mem.le_set m (.cells #[.pointer (some ⟨sb, 0, none⟩)] 25) hfr
  have bx := Mem.set_same m w.heap.size (.cells #[.pointer (some ⟨sb, 0, none⟩)] 25)
  have hnsb : sb ≠ w.heap.size := Ne.symm (Mem.ne_of_none hfr hr.store)
  have BG := begin_g sb g _ _ h1 (hr.le l1) hn
  have c0 : (w.alloc (.cells #[.pointer (some ⟨sb, 0, none⟩)] 25)).cell? ⟨w.heap.size, 0, none⟩ = some (.pointer (some ⟨sb, 0, none⟩)) := by rw [h1.cell bx]; rfl
  have hGs := (Fr.tick (Mem.le_refl ((m.set w.heap.size (.cells #[.pointer (some ⟨sb, 0, none⟩)] 25)).set sb (storeObj g.tick))) (fun _ => False)).glob (by rintro (x | x); exact h0 x; exact x) (hG.le l1)
  have frS := Fr.tick (Mem.le_refl ((m.set w.heap.size (.cells #[.pointer (some ⟨sb, 0, none⟩)] 25)).set sb (storeObj g.tick))) (fun _ => False)
  have HBG := Lib.hid BG
  have HR1 := Lib.hid (hr.le l1).count
  have HG1 := Lib.hid hGs
  have L1 := Lib.hid l1
  have FRS := Lib.hid frS
  have H0 := Lib.hid h0
  have BX := Lib.hid (show ((m.set w.heap.size (.cells #[.pointer (some ⟨sb, 0, none⟩)] 25)).set sb (storeObj g.tick)) w.heap.size = some (.cells #[.pointer (some ⟨sb, 0, none⟩)] 25 (0, 0)) from by rw [Mem.set_ne _ _ (Ne.symm hnsb)]; exact bx)
  have NA := Lib.hid ((Env.refl w).alloc (.cells #[.pointer (some ⟨sb, 0, none⟩)] 25))
  clear hm hr hG h0 hn h1 l1 bx BG hGs hnsb frS
  go_enter Tryz.func23, Tryz.ntmps23
  go_wp2_with fail
  clear c0
  generalize w.heap.size = pb at *
  refine HBG.out.mono ?_
  rintro e w2 ⟨v, m2, rfl, l2, h2, n2, ev, rfl, hev⟩
  have hsz := h2.fresh (Nat.le_refl w2.heap.size)
  have H2 := Lib.hid (h2.alloc (.cells #[.int .i64 g.now.1, .int .i64 g.now.2.1, .int .i64 g.now.2.2] 47))
  have l3 := Mem.le_set m2 (.cells #[.int .i64 g.now.1, .int .i64 g.now.2.1, .int .i64 g.now.2.2] 47) hsz
  have N2 := Lib.hid ((NA.out.trans n2).alloc (.cells #[.int .i64 g.now.1, .int .i64 g.now.2.1, .int .i64 g.now.2.2] 47))
  have HEV := Lib.hid (hev.le l3)
  have LL := Lib.hid (Mem.le_trans l2 l3)
  have c0 : w2.cell? ⟨pb, 0, none⟩ = some (.pointer (some ⟨sb, 0, none⟩)) := by rw [h2.cell (l2 _ _ BX.out)]; rfl
  have clt : pb < w2.heap.size := h2.lt (l2 _ _ BX.out)
  clear l2 h2 n2 hev l3 hsz
  simp only [failV]
  go_wp2_with fail
  obtain ⟨w3, hw3⟩ : ∃ w3, w2.alloc (.cells #[.int .i64 g.now.1, .int .i64 g.now.2.1, .int .i64 g.now.2.2] 47) = w3 := ⟨_, rfl⟩
  rw [hw3] at H2 N2
  try rw [hw3]
  clear hw3
  obtain ⟨m3, hm3⟩ : ∃ m3, m2.set w2.heap.size (.cells #[.int .i64 g.now.1, .int .i64 g.now.2.1, .int .i64 g.now.2.2] 47) = m3 := ⟨_, rfl⟩
  rw [hm3] at H2 LL HEV
  clear hm3 c0 clt
  have c0 : w3.cell? ⟨pb, 0, none⟩ = some (.pointer (some ⟨sb, 0, none⟩)) := by rw [H2.out.cell (LL.out _ _ BX.out)]; rfl
  have R3 := Lib.hid (HR1.out.le LL.out)
  have BX3 := Lib.hid (LL.out _ _ BX.out)
  refine wp_region_K 13 (fun w' => w'.cell? ⟨pb, 0, none⟩ = some (.pointer (some ⟨sb, 0, none⟩))) (by kernel_rfl) ?_
  have hS : (fun w' : World => w'.cell? ⟨pb, 0, none⟩ = some (.pointer (some ⟨sb, 0, none⟩))) w3.drew := c0
  refine wpAnyK_take (i := 0) (v := ?_) rfl (by kernel_rfl) (by kernel_rfl) (by kernel_rfl) (by kernel_rfl) (fun _ _ _ h => h) (Or.inl ⟨by rfl, ?_⟩) hS ?_
  rotate_left
  · intro w0 hS0; (try dsimp only at hS0); go_simp; try with_reducible rfl
  simp only [Act.put, List.setIfInBounds_toArray, List.set_cons_zero, List.set_cons_succ, List.getElem_toArray, List.getElem_cons_succ, List.getElem_cons_zero]
  refine wpAnyK_take (i := 1) (v := ?_) rfl (by kernel_rfl) (by kernel_rfl) (by kernel_rfl) (by kernel_rfl) (fun _ _ _ h => h) (Or.inl ⟨by rfl, ?_⟩) hS ?_
  rotate_left
  · intro w0 hS0; (try dsimp only at hS0); go_simp; try with_reducible rfl
  simp only [Act.put, List.setIfInBounds_toArray, List.set_cons_zero, List.set_cons_succ, List.getElem_toArray, List.getElem_cons_succ, List.getElem_cons_zero]
  refine wpAnyK_take (i := 3) (v := ?_) rfl (by kernel_rfl) (by kernel_rfl) (by kernel_rfl) (by kernel_rfl) (fun _ _ _ h => h) (Or.inl ⟨by rfl, ?_⟩) hS ?_
  rotate_left
  · intro w0 hS0; (try dsimp only at hS0); go_simp; try with_reducible rfl
  simp only [Act.put, List.setIfInBounds_toArray, List.set_cons_zero, List.set_cons_succ, List.getElem_toArray, List.getElem_cons_succ, List.getElem_cons_zero]
  refine wpAnyK_take (i := 5) (v := ?_) rfl (by kernel_rfl) (by kernel_rfl) (by kernel_rfl) (by kernel_rfl) (fun _ _ _ h => h) (Or.inl ⟨by rfl, ?_⟩) hS ?_
  rotate_left
  · intro w0 hS0; (try dsimp only at hS0); go_simp; try with_reducible rfl
  simp only [Act.put, List.setIfInBounds_toArray, List.set_cons_zero, List.set_cons_succ, List.getElem_toArray, List.getElem_cons_succ, List.getElem_cons_zero]
  refine wpAnyK_take (i := 6) (v := ?_) rfl (by kernel_rfl) (by kernel_rfl) (by kernel_rfl) (by kernel_rfl) (fun _ _ _ h => h) (Or.inl ⟨by rfl, ?_⟩) hS ?_
  rotate_left
  · intro w0 hS0; (try dsimp only at hS0); go_simp; try with_reducible rfl
  simp only [Act.put, List.setIfInBounds_toArray, List.set_cons_zero, List.set_cons_succ, List.getElem_toArray, List.getElem_cons_succ, List.getElem_cons_zero]
  refine wpAnyK_take (i := 8) (v := ?_) rfl (by kernel_rfl) (by kernel_rfl) (by kernel_rfl) (by kernel_rfl) (fun _ _ _ h => h) (Or.inl ⟨by rfl, ?_⟩) hS ?_
  rotate_left
  · intro w0 hS0; (try dsimp only at hS0); go_simp; try with_reducible rfl
  simp only [Act.put, List.setIfInBounds_toArray, List.set_cons_zero, List.set_cons_succ, List.getElem_toArray, List.getElem_cons_succ, List.getElem_cons_zero]
  refine wpAnyK_one (i := 2) rfl (by kernel_rfl) rfl ?_
  go_simp
  refine (named_any s _ _ H2.out.drew).mono ?_
  rintro e1 w4 ⟨v1, m4, rfl, l4, h4, n4, hv1⟩
  have H4 := Lib.hid h4
  have N4 := Lib.hid (N2.out.drew.trans n4)
  have L4 := Lib.hid l4
  have C1 := Lib.hid hv1
  have s4 : w4.cell? ⟨pb, 0, none⟩ = some (.pointer (some ⟨sb, 0, none⟩)) := by rw [h4.cell (l4 _ _ BX3.out)]; rfl
  clear l4 h4 n4 hv1
  refine ⟨s4, ?_⟩
  refine wpAnyK_one (i := 4) rfl (by kernel_rfl) rfl ?_
  go_simp
  refine (moded_any mode _ _ H4.out).mono ?_
  rintro e1 w5 ⟨v2, m5, rfl, l5, h5, n5, hv2⟩
  have H5 := Lib.hid h5
  have N5 := Lib.hid (N4.out.trans n5)
  have L5 := Lib.hid (Mem.le_trans L4.out l5)
  have K1 := Lib.hid (C1.out.le l5)
  have C2 := Lib.hid hv2
  have s5 : w5.cell? ⟨pb, 0, none⟩ = some (.pointer (some ⟨sb, 0, none⟩)) := by rw [h5.cell (L5.out _ _ BX3.out)]; rfl
  clear l5 h5 n5 hv2 C1
  refine ⟨s5, ?_⟩
  refine wpAnyK_one (i := 7) rfl (by kernel_rfl) rfl ?_
  go_simp
  refine (there_any sb _ s _ _ H5.out (R3.out.le L5.out)).mono ?_
  rintro e1 w6 ⟨v3, m6, rfl, l6, h6, n6, hv3⟩
  have H6 := Lib.hid h6
  have N6 := Lib.hid (N5.out.trans n6)
  have L6 := Lib.hid (Mem.le_trans L5.out l6)
  have K1 := Lib.hid (K1.out.le l6)
  have K2 := Lib.hid (C2.out.le l6)
  have C3 := Lib.hid hv3
  have s6 : w6.cell? ⟨pb, 0, none⟩ = some (.pointer (some ⟨sb, 0, none⟩)) := by rw [h6.cell (L6.out _ _ BX3.out)]; rfl
  clear l6 h6 n6 hv3 C2
  refine ⟨s6, ?_⟩
  refine wpAnyK_one (i := 9) rfl (by kernel_rfl) rfl ?_
  go_simp
  refine (when_any (-8) _ _ (fullB g.O) _ _ H6.out ⟨_, _, rfl, enters_ofull1, fun w1 m1 l h1 => ofull1_any pb sb g.tick w1 m1 h1 (R3.out.le (Mem.le_trans L6.out l)) (l _ _ (L6.out _ _ BX3.out))⟩).mono ?_
  rintro e1 w7 ⟨v4, m7, rfl, l7, h7, n7, hv4⟩
  have H7 := Lib.hid h7
  have N7 := Lib.hid (N6.out.trans n7)
  have L7 := Lib.hid (Mem.le_trans L6.out l7)
  have K1 := Lib.hid (K1.out.le l7)
  have K2 := Lib.hid (K2.out.le l7)
  have K3 := Lib.hid (C3.out.le l7)
  have K4 := Lib.hid hv4
  have s7 : w7.cell? ⟨pb, 0, none⟩ = some (.pointer (some ⟨sb, 0, none⟩)) := by rw [h7.cell (L7.out _ _ BX3.out)]; rfl
  clear l7 h7 n7 hv4 C3
  refine ⟨s7, ?_⟩
  obtain ⟨p1, q1, i1, hc1, _⟩ := K1.out.imp (fun _ h => h)
  obtain ⟨p2, q2, i2, hc2, _⟩ := K2.out.imp (fun _ h => h)
  obtain ⟨p3, q3, i3, hc3, _⟩ := K3.out.imp (fun _ h => h)
  obtain ⟨p4, q4, i4, hc4, _⟩ := K4.out.imp (fun _ h => h)
  subst hc1
  subst hc2
  subst hc3
  subst hc4
  refine wpAnyK_one (i := 10) rfl (by kernel_rfl) rfl ?_
  go_simp
  have hal := H7.out.alloc (.cells #[.func (.func 78) #[] #[.pointer (some ⟨p1, 0, none⟩), .pointer (some ⟨q1, 0, none⟩)], .func (.func 78) #[] #[.pointer (some ⟨p2, 0, none⟩), .pointer (some ⟨q2, 0, none⟩)],
    .func (.func 78) #[] #[.pointer (some ⟨p3, 0, none⟩), .pointer (some ⟨q3, 0, none⟩)], .func (.func 78) #[] #[.pointer (some ⟨p4, 0, none⟩), .pointer (some ⟨q4, 0, none⟩)]] 74)
  have lal := Mem.le_set m7 (.cells #[.func (.func 78) #[] #[.pointer (some ⟨p1, 0, none⟩), .pointer (some ⟨q1, 0, none⟩)], .func (.func 78) #[] #[.pointer (some ⟨p2, 0, none⟩), .pointer (some ⟨q2, 0, none⟩)],
    .func (.func 78) #[] #[.pointer (some ⟨p3, 0, none⟩), .pointer (some ⟨q3, 0, none⟩)], .func (.func 78) #[] #[.pointer (some ⟨p4, 0, none⟩), .pointer (some ⟨q4, 0, none⟩)]] 74) (H7.out.fresh (Nat.le_refl _))
  refine ⟨by rw [hal.cell (lal _ _ (L7.out _ _ BX3.out))]; rfl, ?_⟩
  refine wpAnyK_one (i := 11) rfl (by kernel_rfl) rfl ?_
  go_simp
  have FA := first_any ev g.now.2.1 w7.heap.size [(.func (.func 78) #[] #[.pointer (some ⟨p1, 0, none⟩), .pointer (some ⟨q1, 0, none⟩)], -38, !isNameB s), (.func (.func 78) #[] #[.pointer (some ⟨p2, 0, none⟩), .pointer (some ⟨q2, 0, none⟩)], -20, !modeB mode),
    (.func (.func 78) #[] #[.pointer (some ⟨p3, 0, none⟩), .pointer (some ⟨q3, 0, none⟩)], -38, (getE g.L s).isNone), (.func (.func 78) #[] #[.pointer (some ⟨p4, 0, none⟩), .pointer (some ⟨q4, 0, none⟩)], -8, fullB g.O)] _ _ hal ((HEV.out.le L7.out).le lal) (Mem.set_same _ _ _)
    (fun c hc => by
      simp only [List.mem_cons, List.not_mem_nil, or_false] at hc
      rcases hc with rfl | rfl | rfl | rfl
      · exact ⟨K1.out.le lal, show (-38 : Int) ≠ 0 by decide⟩
      · exact ⟨K2.out.le lal, show (-20 : Int) ≠ 0 by decide⟩
      · exact ⟨K3.out.le lal, show (-38 : Int) ≠ 0 by decide⟩
      · exact ⟨K4.out.le lal, show (-8 : Int) ≠ 0 by decide⟩) (by simp)
  refine FA.mono ?_
  rintro e1 w8 ⟨v8, m8, rfl, l8, h8, n8, hv8⟩
  have hX := firstOf_open g.abs s mode (.func (.func 78) #[] #[.pointer (some ⟨p1, 0, none⟩), .pointer (some ⟨q1, 0, none⟩)]) (.func (.func 78) #[] #[.pointer (some ⟨p2, 0, none⟩), .pointer (some ⟨q2, 0, none⟩)])
    (.func (.func 78) #[] #[.pointer (some ⟨p3, 0, none⟩), .pointer (some ⟨q3, 0, none⟩)]) (.func (.func 78) #[] #[.pointer (some ⟨p4, 0, none⟩), .pointer (some ⟨q4, 0, none⟩)])
  have hfree : g.abs.free.isNone = fullB g.O := by
    have := abs_free R3.out
    rw [show g.abs.free = (if fullB g.O then none else some (addI g.O)) from this]
    cases fullB g.O <;> rfl
  have hlk : (g.abs.look s).isNone = (getE g.L s).isNone := by
    show ((getE g.L s).map (·.bs)).isNone = _
    cases getE g.L s <;> rfl
  rw [hfree, hlk] at hX
  change firstOf g.now.2.1 _ = _ at hX
  rw [hX] at hv8
  have L8 := Lib.hid (Mem.le_trans L7.out (Mem.le_trans lal l8))
  have H8 := Lib.hid h8
  have N8 := Lib.hid ((N7.out.alloc (.cells #[.func (.func 78) #[] #[.pointer (some ⟨p1, 0, none⟩), .pointer (some ⟨q1, 0, none⟩)], .func (.func 78) #[] #[.pointer (some ⟨p2, 0, none⟩), .pointer (some ⟨q2, 0, none⟩)],
    .func (.func 78) #[] #[.pointer (some ⟨p3, 0, none⟩), .pointer (some ⟨q3, 0, none⟩)], .func (.func 78) #[] #[.pointer (some ⟨p4, 0, none⟩), .pointer (some ⟨q4, 0, none⟩)]] 74)).trans n8)
  have V8 := Lib.hid hv8
  have s8 : w8.cell? ⟨pb, 0, none⟩ = some (.pointer (some ⟨sb, 0, none⟩)) := by rw [h8.cell (L8.out _ _ BX3.out)]; rfl
  have HFREE := Lib.hid hfree
  clear hal lal FA l8 h8 n8 hv8 hX hfree hlk s4 s5 s6 s7 hS c0
  refine ⟨s8, ?_⟩
  refine wpAnyK_one (i := 12) rfl (by kernel_rfl) rfl ?_
  go_simp
  refine wpAnyK_done (by kernel_rfl) ?_ _
  by_cases hx : g.abs.openX s mode = 0
  · obtain rfl : v8 = .nilIface := by
      rcases V8.out with ⟨_, h⟩ | ⟨h, _⟩
      · exact h
      · exact absurd hx h
    have HX := Lib.hid hx
    obtain ⟨e, he⟩ : ∃ e, getE g.L s = some e := by
      obtain ⟨_, _, _, h1, _⟩ := openX_zero hx
      cases hg : getE g.L s with
      | some e => exact ⟨e, rfl⟩
      | none =>
        have h2 : (g.abs.look s).isNone = true := by show ((getE g.L s).map (·.bs)).isNone = true; rw [hg]; rfl
        rw [h1] at h2; cases h2
    have hfb : fullB g.O = false := by
      obtain ⟨_, _, _, _, h1⟩ := openX_zero hx
      rw [← HFREE.out]; exact h1
    have r8 := R3.out.le L8.out
    have t0 : w8.cell? ⟨sb, 0, none⟩ = some (.map (some g.mb)) := by rw [H8.out.cell r8.store]; rfl
    have t1 : w8.heap[g.mb]? = some (.map (g.L.map Ent.entry).toArray g.clock) := H8.out _ _ r8.map
    have hlk : ∀ w0 : World, w0.heap[g.mb]? = some (.map (g.L.map Ent.entry).toArray g.clock) → (Instr.lookup 68 (.map (some g.mb)) (.string s) false).run Tryz.prog w0 = .ok (.pointer (some ⟨e.fb, 0, none⟩)) w0 := fun w0 h => by
      rw [run_lookupF g.mb g.clock g.L s w0 h, lookV_some he]
    have HE := Lib.hid he
    have HFB := Lib.hid hfb
    have R8 := Lib.hid r8
    clear hx he hfb r8
    go_wp2_with fail
    refine wp_region_K 8 (fun w' => w'.cell? ⟨pb, 0, none⟩ = some (.pointer (some ⟨sb, 0, none⟩)) ∧ w'.cell? ⟨sb, 0, none⟩ = some (.map (some g.mb)) ∧ w'.heap[g.mb]? = some (.map (g.L.map Ent.entry).toArray g.clock)) (by kernel_rfl) ?_
    have hS : (fun w' : World => w'.cell? ⟨pb, 0, none⟩ = some (.pointer (some ⟨sb, 0, none⟩)) ∧ w'.cell? ⟨sb, 0, none⟩ = some (.map (some g.mb)) ∧ w'.heap[g.mb]? = some (.map (g.L.map Ent.entry).toArray g.clock)) w8.drew := ⟨s8, t0, t1⟩
    refine wpAnyK_take (i := 0) (v := ?_) rfl (by kernel_rfl) (by kernel_rfl) (by kernel_rfl) (by kernel_rfl) (fun _ _ _ h => h) (Or.inl ⟨by rfl, ?_⟩) hS ?_
    rotate_left
    · intro w0 hS0; obtain ⟨q0, q1, q2⟩ := hS0; go_simp; try with_reducible rfl
    simp only [Act.put, List.setIfInBounds_toArray, List.set_cons_zero, List.set_cons_succ, List.getElem_toArray, List.getElem_cons_succ, List.getElem_cons_zero]
    refine wpAnyK_take (i := 1) (v := ?_) rfl (by kernel_rfl) (by kernel_rfl) (by kernel_rfl) (by kernel_rfl) (fun _ _ _ h => h) (Or.inl ⟨by rfl, ?_⟩) hS ?_
    rotate_left
    · intro w0 hS0; obtain ⟨q0, q1, q2⟩ := hS0; go_simp; try with_reducible rfl
    simp only [Act.put, List.setIfInBounds_toArray, List.set_cons_zero, List.set_cons_succ, List.getElem_toArray, List.getElem_cons_succ, List.getElem_cons_zero]
    refine wpAnyK_take (i := 2) (v := ?_) rfl (by kernel_rfl) (by kernel_rfl) (by kernel_rfl) (by kernel_rfl) (fun _ _ _ h => h) (Or.inl ⟨by rfl, ?_⟩) hS ?_
    rotate_left
    · intro w0 hS0; obtain ⟨q0, q1, q2⟩ := hS0; go_simp; try with_reducible rfl
    simp only [Act.put, List.setIfInBounds_toArray, List.set_cons_zero, List.set_cons_succ, List.getElem_toArray, List.getElem_cons_succ, List.getElem_cons_zero]
    refine wpAnyK_take (i := 3) (v := ?_) rfl (by kernel_rfl) (by kernel_rfl) (by kernel_rfl) (by kernel_rfl) (fun _ _ _ h => h) (Or.inl ⟨by rfl, ?_⟩) hS ?_
    rotate_left
    · intro w0 hS0; obtain ⟨q0, q1, q2⟩ := hS0; go_simp; try with_reducible rfl
    simp only [Act.put, List.setIfInBounds_toArray, List.set_cons_zero, List.set_cons_succ, List.getElem_toArray, List.getElem_cons_succ, List.getElem_cons_zero]
    refine wpAnyK_take (i := 4) (v := ?_) rfl (by kernel_rfl) (by kernel_rfl) (by kernel_rfl) (by kernel_rfl) (fun _ _ _ h => h) (Or.inl ⟨by rfl, ?_⟩) hS ?_
    rotate_left
    · intro w0 hS0; obtain ⟨q0, q1, q2⟩ := hS0; go_simp; try with_reducible rfl
    simp only [Act.put, List.setIfInBounds_toArray, List.set_cons_zero, List.set_cons_succ, List.getElem_toArray, List.getElem_cons_succ, List.getElem_cons_zero]
    refine wpAnyK_take (i := 5) (v := ?_) rfl (by kernel_rfl) (by kernel_rfl) (by kernel_rfl) (by kernel_rfl) (fun _ _ _ h => h) (Or.inl ⟨by rfl, ?_⟩) hS ?_
    rotate_left
    · intro w0 hS0; obtain ⟨q0, q1, q2⟩ := hS0; go_simp; try with_reducible rfl
    simp only [Act.put, List.setIfInBounds_toArray, List.set_cons_zero, List.set_cons_succ, List.getElem_toArray, List.getElem_cons_succ, List.getElem_cons_zero]
    refine wpAnyK_take (i := 6) (v := ?_) rfl (by kernel_rfl) (by kernel_rfl) (by kernel_rfl) (by kernel_rfl) (fun _ _ _ h => h) (Or.inl ⟨by rfl, ?_⟩) hS ?_
    rotate_left
    · intro w0 hS0; obtain ⟨q0, q1, q2⟩ := hS0; go_simp; try with_reducible rfl
    simp only [Act.put, List.setIfInBounds_toArray, List.set_cons_zero, List.set_cons_succ, List.getElem_toArray, List.getElem_cons_succ, List.getElem_cons_zero]
    refine wpAnyK_take (i := 7) (v := ?_) rfl (by kernel_rfl) (by kernel_rfl) (by kernel_rfl) (by kernel_rfl) (fun _ _ _ h => h) (Or.inl ⟨by rfl, ?_⟩) hS ?_
    rotate_left
    · intro w0 hS0; obtain ⟨q0, q1, q2⟩ := hS0; go_simp; try with_reducible rfl
    simp only [Act.put, List.setIfInBounds_toArray, List.set_cons_zero, List.set_cons_succ, List.getElem_toArray, List.getElem_cons_succ, List.getElem_cons_zero]
    refine wpAnyK_one (i := 8) rfl (by kernel_rfl) rfl ?_
    go_simp
    refine (add_any sb g.tick e mode w8.drew m8 H8.out.drew R8.out (getE_mem HE.out) HFB.out).mono ?_
    rintro e1 w9 ⟨ob, ov', m9, rfl, hnob, h9, n9, r9, f9⟩
    have H9 := Lib.hid h9
    have N9 := Lib.hid (N8.out.drew.trans n9)
    have R9 := Lib.hid r9
    have F9 := Lib.hid f9
    clear h9 n9 r9 f9 hnob hS hlk t0 t1
    simp only [Act.put, List.setIfInBounds_toArray, List.set_cons_zero, List.set_cons_succ, List.getElem_toArray, List.getElem_cons_succ, List.getElem_cons_zero]
    refine wpAnyK_one (i := 9) rfl (by kernel_rfl) rfl ?_
    go_simp
    refine wpAnyK_one (i := 10) rfl (by kernel_rfl) rfl ?_
    go_simp
    refine wpAnyK_done (by kernel_rfl) ?_ _
    go_wp2_with fail
    refine bodyPost_ret (v := .tuple #[.int .i64 ((addI g.O : Int) + 1), .int .i64 0]) (by simp [results, Tryz.results23, go_sem]; rfl) rfl ?_
    have hfr : g.abs.free = some (addI g.O) := by
      have := abs_free R8.out
      rw [show g.abs.free = (if fullB g.O then none else some (addI g.O)) from this, HFB.out]; rfl
    have hF : g.abs.openF s mode = (g.abs.tick.setH (addI g.O) (some (s, mode, 0)), 0, (addI g.O : Int) + 1) := by
      unfold A.openF; rw [if_neg (fun c => c HX.out), hfr]; rfl
    rw [hF]
    have hop : OpR (β := Int) _ sb g (fun _ => False) (g.abs.tick.setH (addI g.O) (some (s, mode, 0)), 0, (addI g.O : Int) + 1) (fun _ i => Value.int .i64 ((addI g.O : Int) + 1) = .int .i64 i) m9 0 :=
      ⟨_, R9.out, ((FRS.out.le (Mem.le_trans LL.out L8.out)).trans (F9.out.more _)).mono (fun b hb => .inr (.inl hb)), by rw [← getE_name HE.out]; exact abs_add (g := g.tick) ov', rfl, rfl⟩
    exact ⟨_, _, m9, rfl, H9.out, N9.out, hop.ahead L1.out (fun _ h => h.elim) (fun h => h)⟩
  · obtain ⟨b4, hb4⟩ : ∃ b, v8 = .iface 104 (.pointer (some ⟨b, 0, none⟩)) := by
      rcases V8.out with ⟨h, _⟩ | ⟨_, b, h, _⟩
      · exact absurd h hx
      · exact ⟨b, h⟩
    subst hb4
    have HX := Lib.hid hx
    clear hx
    go_wp2_with fail
    have g8 : GlobOk m8 := (HG1.out.le LL.out).le L8.out
    refine (ior_any _ _ _ _ H8.out g8 V8.out).mono ?_
    rintro e1 w9 ⟨v9, m9, rfl, l9, h9, n9, rfl⟩
    have L9 := Lib.hid (Mem.le_trans LL.out (Mem.le_trans L8.out l9))
    have H9 := Lib.hid h9
    have N9 := Lib.hid (N8.out.trans n9)
    clear l9 h9 n9 g8
    go_wp2_with fail
    refine bodyPost_ret (v := .tuple #[.int .i64 0, .int .i64 (g.abs.openX s mode)]) (by simp [results, Tryz.results23, go_sem]) rfl ?_
    have hF : g.abs.openF s mode = (g.abs.tick, g.abs.openX s mode, 0) := by unfold A.openF; rw [if_pos HX.out]
    rw [hF]
    have hop : OpR (β := Int) _ sb g (fun _ => False) (g.abs.tick, g.abs.openX s mode, 0) (fun _ i => Value.int .i64 0 = .int .i64 i) m9 (g.abs.openX s mode) :=
      ⟨g.tick, HR1.out.le L9.out, (FRS.out.le L9.out).mono (fun b hb => .inl (.inl hb)), rfl, rfl, rfl⟩
    exact ⟨_, _, m9, rfl, H9.out, N9.out, hop.ahead L1.out (fun _ h => h.elim) (fun h => h)⟩
end Go.Proofs.YtcdmdkgiabfbeaaGreatDoor

/-
  Status, Delete. (printed by names_gen.py)
-/
namespace Go.Proofs.YtcdmdkgiabfbeaaGreatDoor
open Go.RowKit

namespace A
/-- Is a file open? -/
def used (a : A) (s : ByteArray) : Bool := (List.range 32).any fun i => match a.hnd i with | some h => decide (h.1 = s) | none => false
def statusX (a : A) (s : ByteArray) : Int := if a.now.2.1 ≠ 0 then a.now.2.1 else if isNameB s = false then -38 else if (a.look s).isNone then -38 else 0
def statusF (a : A) (s : ByteArray) : A × Int × Int := if a.statusX s ≠ 0 then (a.tick, a.statusX s, 0) else (a.tick, 0, (a.bytes s).length)
def drop (a : A) (s : ByteArray) : A := { a with look := fun t => if t = s then none else a.look t, count := a.count - 1 }
def deleteX (a : A) (s : ByteArray) : Int := if a.now.2.1 ≠ 0 then a.now.2.1 else if isNameB s = false then -38 else if (a.look s).isNone then -38 else if a.used s then -69 else 0
def deleteF (a : A) (s : ByteArray) : A × Int × Unit := if a.deleteX s ≠ 0 then (a.tick, a.deleteX s, ()) else (a.tick.drop s, 0, ())
end A

theorem firstOf_status (a : A) (s : ByteArray) (c1 c2 : Value) : firstOf a.now.2.1 [(c1, -38, !isNameB s), (c2, -38, (a.look s).isNone)] = a.statusX s := by
  unfold A.statusX
  by_cases h0 : a.now.2.1 = 0
  · cases isNameB s <;> cases (a.look s).isNone <;> simp [firstOf, h0]
  · simp [firstOf, h0]
theorem firstOf_delete (a : A) (s : ByteArray) (c1 c2 c3 : Value) : firstOf a.now.2.1 [(c1, -38, !isNameB s), (c2, -38, (a.look s).isNone), (c3, -69, a.used s)] = a.deleteX s := by
  unfold A.deleteX
  by_cases h0 : a.now.2.1 = 0
  · cases isNameB s <;> cases (a.look s).isNone <;> cases a.used s <;> simp [firstOf, h0]
  · simp [firstOf, h0]

theorem abs_none (g : G) (s : ByteArray) : (g.abs.look s).isNone = (getE g.L s).isNone := by
  show ((getE g.L s).map (·.bs)).isNone = _
  cases getE g.L s <;> rfl

/-- Whether a file is open, in memory and as a store. -/
theorem abs_used {m : Mem} {sb : Nat} {g : G} (r : SRep m sb g) {s : ByteArray} (hs : (g.abs.look s).isNone = false) : g.abs.used s = g.O.any (isOf g.L s) := by
  rw [abs_none] at hs
  obtain ⟨e, he⟩ : ∃ e, getE g.L s = some e := by cases h : getE g.L s with | none => rw [h] at hs; cases hs | some e => exact ⟨e, rfl⟩
  have hem := getE_mem he
  have hen := getE_name he
  have hl := r.olen
  have key : ∀ h, some h ∈ g.O → (decide (h.name = s) = decide (h.fb = e.fb)) := fun h hh => by
    obtain ⟨d, hd, h1, h2⟩ := r.hof h hh
    rw [Bool.eq_iff_iff]
    simp only [decide_eq_true_eq]
    constructor
    · intro h3
      rw [← h1, nodup_inj r.names hd hem (by rw [h2, h3, hen])]
    · intro h3
      rw [← h2, nodup_inj r.fbs hd hem (by rw [h1, h3]), hen]
  unfold A.used
  rw [Bool.eq_iff_iff, List.any_eq_true, List.any_eq_true]
  constructor
  · rintro ⟨i, hi, h⟩
    have hx : g.abs.hnd i = ((g.O[i]?).join).map Hnd.abs := rfl
    rw [hx] at h
    cases hO : g.O[i]? with
    | none => rw [hO] at h; cases h
    | some x =>
      cases x with
      | none => rw [hO] at h; cases h
      | some y =>
        rw [hO] at h
        have hm := List.mem_of_getElem? hO
        refine ⟨some y, hm, ?_⟩
        unfold isOf
        simp only [he]
        rw [← key y hm]; exact h
  · rintro ⟨x, hx, h⟩
    obtain ⟨i, hi, rfl⟩ := List.getElem_of_mem hx
    cases hO : g.O[i] with
    | none => rw [hO] at h; cases h
    | some y =>
      rw [hO] at h hx
      unfold isOf at h
      simp only [he] at h
      refine ⟨i, List.mem_range.2 (by omega), ?_⟩
      have hx' : g.abs.hnd i = some y.abs := by
        show ((g.O[i]?).join).map Hnd.abs = _
        rw [List.getElem?_eq_getElem hi, hO]; rfl
      rw [hx']
      show decide (y.name = s) = true
      rw [key y hx]; exact h

theorem statusX_zero {a : A} {s : ByteArray} (h : a.statusX s = 0) : (a.look s).isNone = false := by
  unfold A.statusX at h
  by_cases h0 : a.now.2.1 = 0
  · rw [if_neg (fun c => c h0)] at h
    cases h1 : isNameB s <;> cases h3 : (a.look s).isNone <;> simp_all
  · rw [if_pos h0] at h; exact absurd h h0
theorem deleteX_zero {a : A} {s : ByteArray} (h : a.deleteX s = 0) : (a.look s).isNone = false ∧ a.used s = false := by
  unfold A.deleteX at h
  by_cases h0 : a.now.2.1 = 0
  · rw [if_neg (fun c => c h0)] at h
    cases h1 : isNameB s <;> cases h3 : (a.look s).isNone <;> cases h4 : a.used s <;> simp_all
  · rw [if_pos h0] at h; exact absurd h h0

set_option maxHeartbeats 4000000 in
theorem status_any (sb : Nat) (s : ByteArray) (g : G) (w : World) (m : Mem) (hm : Has w m) (hr : SRep m sb g) (hG : GlobOk m) (h0 : ¬ FP sb g 0) (hn : g.n ≤ 999999) :
    Calls Tryz.prog 60 #[.pointer (some ⟨sb, 0, none⟩), .string s] w
      (AnsB w fun v m2 x => OpR m sb g (fun _ => False) (g.abs.statusF s) (fun _ i => v = .int .i64 i) m2 x) := by
  have BG := begin_g sb g w m hm hr hn
  have hGs := (Fr.tick (Mem.le_refl (m.set sb (storeObj g.tick))) (fun _ => False)).glob (by rintro (x | x); exact h0 x; exact x) hG
  have frS := Fr.tick (Mem.le_refl (m.set sb (storeObj g.tick))) (fun _ => False)
  have HBG := Lib.hid BG
  have HR1 := Lib.hid hr.count
  have HG1 := Lib.hid hGs
  have FRS := Lib.hid frS
  have H0 := Lib.hid h0
  clear hm hr hG h0 hn BG hGs frS
  go_enter Tryz.func60, Tryz.ntmps60
  go_wp2_with fail
  refine HBG.out.mono ?_
  rintro e w2 ⟨v, m2, rfl, l2, h2, n2, ev, rfl, hev⟩
  have hsz := h2.fresh (Nat.le_refl w2.heap.size)
  have H2 := Lib.hid (h2.alloc (.cells #[.int .i64 g.now.1, .int .i64 g.now.2.1, .int .i64 g.now.2.2] 47))
  have l3 := Mem.le_set m2 (.cells #[.int .i64 g.now.1, .int .i64 g.now.2.1, .int .i64 g.now.2.2] 47) hsz
  have N2 := Lib.hid (n2.alloc (.cells #[.int .i64 g.now.1, .int .i64 g.now.2.1, .int .i64 g.now.2.2] 47))
  have HEV := Lib.hid (hev.le l3)
  have LB := Lib.hid (Mem.le_trans l2 l3)
  clear l2 h2 n2 hev l3 hsz
  simp only [failV]
  go_wp2_with fail
  generalize w2.alloc (.cells #[.int .i64 g.now.1, .int .i64 g.now.2.1, .int .i64 g.now.2.2] 47) = w3 at *
  generalize m2.set w2.heap.size (.cells #[.int .i64 g.now.1, .int .i64 g.now.2.1, .int .i64 g.now.2.2] 47) = m3 at *
  have H3 := H2
  have N3 := N2
  have L3 := Lib.hid (Mem.le_refl m3)
  have R3 := Lib.hid (HR1.out.le LB.out)
  clear H2 N2
  refine (named_any s _ _ H3.out).mono ?_
  rintro e1 w4 ⟨v1, m4, rfl, l4, h4, n4, hv1⟩
  obtain ⟨p1, q1, i1, hc1, _⟩ := hv1.imp (fun _ h => h)
  subst hc1
  have H4 := Lib.hid h4
  have N4 := Lib.hid (N3.out.trans n4)
  have L4 := Lib.hid (Mem.le_trans L3.out l4)
  have K1 := Lib.hid hv1
  clear l4 h4 n4 hv1
  go_wp2_with fail
  refine (there_any sb _ s _ _ H4.out (R3.out.le L4.out)).mono ?_
  rintro e2 w5 ⟨v2, m5, rfl, l5, h5, n5, hv2⟩
  obtain ⟨p2, q2, i2, hc2, _⟩ := hv2.imp (fun _ h => h)
  subst hc2
  have H5 := Lib.hid h5
  have N5 := Lib.hid (N4.out.trans n5)
  have L5 := Lib.hid (Mem.le_trans L4.out l5)
  have K1 := Lib.hid (K1.out.le l5)
  have K2 := Lib.hid hv2
  clear l5 h5 n5 hv2
  go_wp2_with fail
  have hal := H5.out.alloc (.cells #[.func (.func 78) #[] #[.pointer (some ⟨p1, 0, none⟩), .pointer (some ⟨q1, 0, none⟩)], .func (.func 78) #[] #[.pointer (some ⟨p2, 0, none⟩), .pointer (some ⟨q2, 0, none⟩)]] 74)
  have lal := Mem.le_set m5 (.cells #[.func (.func 78) #[] #[.pointer (some ⟨p1, 0, none⟩), .pointer (some ⟨q1, 0, none⟩)], .func (.func 78) #[] #[.pointer (some ⟨p2, 0, none⟩), .pointer (some ⟨q2, 0, none⟩)]] 74) (H5.out.fresh (Nat.le_refl _))
  have FA := first_any ev g.now.2.1 w5.heap.size [(.func (.func 78) #[] #[.pointer (some ⟨p1, 0, none⟩), .pointer (some ⟨q1, 0, none⟩)], -38, !isNameB s), (.func (.func 78) #[] #[.pointer (some ⟨p2, 0, none⟩), .pointer (some ⟨q2, 0, none⟩)], -38, (getE g.L s).isNone)] _ _ hal ((HEV.out.le L5.out).le lal) (Mem.set_same _ _ _)
    (fun c hc => by
      simp only [List.mem_cons, List.not_mem_nil, or_false] at hc
      rcases hc with rfl | rfl
      · exact ⟨K1.out.le lal, show (-38 : Int) ≠ 0 by decide⟩
      · exact ⟨K2.out.le lal, show (-38 : Int) ≠ 0 by decide⟩) (by simp)
  refine FA.mono ?_
  rintro e9 w8 ⟨v8, m8, rfl, l8, h8, n8, hv8⟩
  have hX := firstOf_status g.abs s (.func (.func 78) #[] #[.pointer (some ⟨p1, 0, none⟩), .pointer (some ⟨q1, 0, none⟩)]) (.func (.func 78) #[] #[.pointer (some ⟨p2, 0, none⟩), .pointer (some ⟨q2, 0, none⟩)])
  rw [abs_none] at hX
  change firstOf g.now.2.1 _ = _ at hX
  rw [hX] at hv8
  have L8 := Lib.hid (Mem.le_trans L5.out (Mem.le_trans lal l8))
  have H8 := Lib.hid h8
  have N8 := Lib.hid ((N5.out.alloc (.cells #[.func (.func 78) #[] #[.pointer (some ⟨p1, 0, none⟩), .pointer (some ⟨q1, 0, none⟩)], .func (.func 78) #[] #[.pointer (some ⟨p2, 0, none⟩), .pointer (some ⟨q2, 0, none⟩)]] 74)).trans n8)
  have V8 := Lib.hid hv8
  have R8 := Lib.hid (R3.out.le L8.out)
  clear hal lal FA l8 h8 n8 hv8 hX
  by_cases hx : g.abs.statusX s = 0
  · obtain rfl : v8 = .nilIface := by
      rcases V8.out with ⟨_, h⟩ | ⟨h, _⟩
      · exact h
      · exact absurd hx h
    have HX := Lib.hid hx
    obtain ⟨e, he⟩ : ∃ e, getE g.L s = some e := by
      have h1 := statusX_zero hx
      rw [abs_none] at h1
      cases hg : getE g.L s with
      | some e => exact ⟨e, rfl⟩
      | none => rw [hg] at h1; cases h1
    have r8 := R8.out
    have t0 : w8.cell? ⟨sb, 0, none⟩ = some (.map (some g.mb)) := by rw [H8.out.cell r8.store]; rfl
    have t1 : w8.heap[g.mb]? = some (.map (g.L.map Ent.entry).toArray g.clock) := H8.out _ _ r8.map
    have HE := Lib.hid he
    have hlk : ∀ w0 : World, w0.heap[g.mb]? = some (.map (g.L.map Ent.entry).toArray g.clock) → (Instr.lookup 68 (.map (some g.mb)) (.string s) false).run Tryz.prog w0 = .ok (.pointer (some ⟨e.fb, 0, none⟩)) w0 := fun w0 h => by
      rw [run_lookupF g.mb g.clock g.L s w0 h, lookV_some he]
    obtain ⟨ba, bc, hbv, _⟩ := (r8.row e (getE_mem he)).lenV
    have t2 : w8.cell? ⟨e.fb, 0, none⟩ = some (.slice ba e.bs.length bc) := by rw [H8.out.cell (r8.file e (getE_mem he)), ← hbv]; rfl
    have s0 := H8.out.lt r8.store
    have s1 := H8.out.lt (r8.file e (getE_mem he))
    clear hx he r8 hbv
    go_wp2_with fail
    refine bodyPost_ret (v := .tuple #[.int .i64 e.bs.length, .int .i64 0]) (by simp [results, Tryz.results60, go_sem]) rfl ?_
    have hF : g.abs.statusF s = (g.abs.tick, 0, (e.bs.length : Int)) := by
      unfold A.statusF
      rw [if_neg (fun c => c HX.out)]
      have hb : g.abs.bytes s = e.bs := by
        show (((getE g.L s).map (·.bs)).getD []) = e.bs
        rw [HE.out]; rfl
      rw [hb]
    rw [hF]
    exact ⟨_, _, m8, rfl, H8.out, N8.out, g.tick, R8.out, (FRS.out.le (Mem.le_trans LB.out L8.out)).mono (fun b hb => .inl (.inl hb)), rfl, rfl, rfl⟩
  · obtain ⟨b4, hb4⟩ : ∃ b, v8 = .iface 104 (.pointer (some ⟨b, 0, none⟩)) := by
      rcases V8.out with ⟨h, _⟩ | ⟨_, b, h, _⟩
      · exact absurd h hx
      · exact ⟨b, h⟩
    subst hb4
    have HX := Lib.hid hx
    clear hx
    go_wp2_with fail
    have g8 : GlobOk m8 := (HG1.out.le LB.out).le L8.out
    refine (ior_any _ _ _ _ H8.out g8 V8.out).mono ?_
    rintro e1 w9 ⟨v9, m9, rfl, l9, h9, n9, rfl⟩
    have L9 := Lib.hid (Mem.le_trans LB.out (Mem.le_trans L8.out l9))
    have H9 := Lib.hid h9
    have N9 := Lib.hid (N8.out.trans n9)
    clear l9 h9 n9 g8
    go_wp2_with fail
    refine bodyPost_ret (v := .tuple #[.int .i64 0, .int .i64 (g.abs.statusX s)]) (by simp [results, Tryz.results60, go_sem]) rfl ?_
    have hF : g.abs.statusF s = (g.abs.tick, g.abs.statusX s, 0) := by unfold A.statusF; rw [if_pos HX.out]
    rw [hF]
    exact ⟨_, _, m9, rfl, H9.out, N9.out, g.tick, HR1.out.le L9.out, (FRS.out.le L9.out).mono (fun b hb => .inl (.inl hb)), rfl, rfl, rfl⟩
end Go.Proofs.YtcdmdkgiabfbeaaGreatDoor

/-
  A store with a file less.
-/
namespace Go.Proofs.YtcdmdkgiabfbeaaGreatDoor
open Go.RowKit

def dropE (L : List Ent) (s : ByteArray) : List Ent := match findAt s L 0 with | some (j, _) => L.eraseIdx j | none => L

theorem dropE_sub (L : List Ent) (s : ByteArray) : (dropE L s).Sublist L := by
  unfold dropE
  cases findAt s L 0 with
  | none => exact List.Sublist.refl _
  | some p => exact List.eraseIdx_sublist ..

theorem getE_find {L : List Ent} {s : ByteArray} {e : Ent} (h : getE L s = some e) : ∃ j, findAt s L 0 = some (j, e) ∧ L[j]? = some e := by
  cases hf : findAt s L 0 with
  | none => exact absurd (getE_name h) ((findAt_none s L 0).1 hf e (getE_mem h))
  | some p =>
    obtain ⟨j, d⟩ := p
    obtain ⟨_, h1, h2, h3⟩ := findAt_spec _ _ _ _ _ hf
    simp only [Nat.sub_zero] at h1 h3
    have hjl := (List.getElem?_eq_some_iff.1 h1).1
    -- both are the first of the name
    have hg : getE L s = some d := by
      have hL : L = L.take j ++ d :: L.drop (j + 1) := by
        rw [← (List.getElem?_eq_some_iff.1 h1).2, List.getElem_cons_drop hjl, List.take_append_drop]
      unfold getE
      rw [hL, List.find?_append, List.find?_eq_none.2 (fun x hx => by simpa using fun e => h3 x hx e.symm), List.find?_cons]
      simp [h2]
    rw [h] at hg
    obtain rfl := Option.some.inj hg
    exact ⟨j, rfl, h1⟩

theorem dropE_mem {L : List Ent} (hn : (L.map (·.name)).Nodup) {s : ByteArray} {e : Ent} (he : getE L s = some e) {d : Ent} : d ∈ dropE L s ↔ d ∈ L ∧ d.name ≠ s := by
  obtain ⟨j, hf, hj⟩ := getE_find he
  have hen := getE_name he
  have hjl := (List.getElem?_eq_some_iff.1 hj).1
  unfold dropE
  rw [hf]
  show d ∈ L.eraseIdx j ↔ _
  rw [List.mem_eraseIdx_iff_getElem?]
  have hpw := List.pairwise_iff_getElem.1 (List.pairwise_map.1 hn)
  have hinj : ∀ i (hi : i < L.length), (L[i]).name = s → i = j := fun i hi h => by
    have hje : (L[j]).name = s := by rw [(List.getElem?_eq_some_iff.1 hj).2, hen]
    rcases Nat.lt_trichotomy i j with h1 | h1 | h1
    · exact absurd (h.trans hje.symm) (hpw i j hi hjl h1)
    · exact h1
    · exact absurd (hje.trans h.symm) (hpw j i hjl hi h1)
  constructor
  · rintro ⟨i, hi, h⟩
    obtain ⟨hil, rfl⟩ := List.getElem?_eq_some_iff.1 h
    exact ⟨List.getElem_mem hil, fun hs => hi (hinj i hil hs)⟩
  · rintro ⟨h1, h2⟩
    obtain ⟨i, hi, rfl⟩ := List.getElem_of_mem h1
    refine ⟨i, fun h => h2 ?_, List.getElem?_eq_getElem hi⟩
    subst h
    rw [(List.getElem?_eq_some_iff.1 hj).2, hen]

theorem getE_dropE {L : List Ent} (hn : (L.map (·.name)).Nodup) {s : ByteArray} {e : Ent} (he : getE L s = some e) (t : ByteArray) : getE (dropE L s) t = if t = s then none else getE L t := by
  have hn' : ((dropE L s).map (·.name)).Nodup := hn.sublist ((dropE_sub L s).map _)
  cases hd : getE (dropE L s) t with
  | some d =>
    obtain ⟨h1, h2⟩ := (dropE_mem hn he).1 (getE_mem hd)
    have h3 := getE_name hd
    rw [if_neg (by rw [← h3]; exact h2), ← h3, getE_of hn h1]
  | none =>
    by_cases ht : t = s
    · rw [if_pos ht]
    · rw [if_neg ht]
      cases hx : getE L t with
      | none => rfl
      | some d =>
        have h1 : d ∈ dropE L s := (dropE_mem hn he).2 ⟨getE_mem hx, by rw [getE_name hx]; exact ht⟩
        have h2 := getE_of hn' h1
        rw [getE_name hx, hd] at h2; cases h2

theorem SRep.drop {m : Mem} {sb : Nat} {g : G} (r : SRep m sb g) {s : ByteArray} {e : Ent} (he : getE g.L s = some e) (hu : ∀ h, some h ∈ g.O → h.name ≠ s) :
    SRep (m.set g.mb (mapObj (dropE g.L s) g.clock)) sb { g with L := dropE g.L s } := by
  have sub := dropE_sub g.L s
  have mem : ∀ d, d ∈ dropE g.L s → d ∈ g.L := fun d hd => sub.subset hd
  have key : ∀ {b : Nat} {o : Obj}, m b = some o → (∀ es c, o ≠ .map es c) → (m.set g.mb (mapObj (dropE g.L s) g.clock)) b = some o := fun hb ho => by
    rw [Mem.set_ne _ _ (by rintro rfl; rw [r.map] at hb; exact ho _ _ (Option.some.inj hb).symm)]; exact hb
  have krow : ∀ {v : Value} {t : TypeId} {k n : Nat} {xs : List Value}, Row m v t k n xs → Row (m.set g.mb (mapObj (dropE g.L s) g.clock)) v t k n xs := fun h => h.keep fun b o hb hm => by
    obtain ⟨cur, fz, hc⟩ := h.ty hb
    rw [hm] at hc
    obtain rfl := Option.some.inj hc
    exact key hm (by simp)
  exact { r with
    store := key r.store (by simp [storeObj])
    map := Mem.set_same _ _ _
    file := fun d hd => key (r.file d (mem d hd)) (by simp [fileObj])
    row := fun d hd => krow (r.row d (mem d hd))
    names := r.names.sublist (sub.map _)
    fbs := r.fbs.sublist (sub.map _)
    sep := fun d hd d' hd' => r.sep d (mem d hd) d' (mem d' hd')
    bornN := r.bornN.sublist (sub.map _)
    bornC := fun d hd => r.bornC d (mem d hd)
    fails := krow r.fails
    opens := krow r.opens
    hnd := fun h hh => key (r.hnd h hh) (by simp [hndObj])
    hof := fun h hh => by
      obtain ⟨d, hd, h1, h2⟩ := r.hof h hh
      exact ⟨d, (dropE_mem r.names he).2 ⟨hd, by rw [h2]; exact hu h hh⟩, h1, h2⟩
    llen := Nat.le_trans sub.length_le r.llen
    nm := fun d hd => r.nm d (mem d hd)
    bsz := fun d hd => r.bsz d (mem d hd) }

theorem FP_drop {sb : Nat} {g : G} {s : ByteArray} {b : Nat} (h : FP sb { g with L := dropE g.L s } b) : FP sb g b := by
  rcases h with h | h | ⟨d, hd, h⟩ | h | h | h
  · exact .inl h
  · exact .inr (.inl h)
  · exact .inr (.inr (.inl ⟨d, (dropE_sub g.L s).subset hd, h⟩))
  · exact .inr (.inr (.inr (.inl h)))
  · exact .inr (.inr (.inr (.inr (.inl h))))
  · exact .inr (.inr (.inr (.inr (.inr h))))

theorem dropE_len {L : List Ent} {s : ByteArray} {e : Ent} (he : getE L s = some e) : (dropE L s).length = L.length - 1 := by
  obtain ⟨j, hf, hj⟩ := getE_find he
  have hjl := (List.getElem?_eq_some_iff.1 hj).1
  unfold dropE
  rw [hf]
  show (L.eraseIdx j).length = _
  rw [List.length_eraseIdx, if_pos hjl]

theorem abs_drop {m : Mem} {sb : Nat} {g : G} (r : SRep m sb g) {s : ByteArray} {e : Ent} (he : getE g.L s = some e) : ({ g with L := dropE g.L s } : G).abs = g.abs.drop s := by
  simp only [G.abs, A.drop, A.mk.injEq, and_true]
  refine ⟨?_, dropE_len he⟩
  funext t
  rw [getE_dropE r.names he]
  split <;> rfl

/-- A file that is not open is no open file's. -/
theorem not_used {m : Mem} {sb : Nat} {g : G} (r : SRep m sb g) {s : ByteArray} (h : g.abs.used s = false) : ∀ h', some h' ∈ g.O → h'.name ≠ s := fun x hx hn => by
  obtain ⟨i, hi, hO⟩ := List.getElem_of_mem hx
  have hl := r.olen
  unfold A.used at h
  rw [List.any_eq_false] at h
  refine h i (List.mem_range.2 (by omega)) ?_
  have hx' : g.abs.hnd i = some x.abs := by
    show ((g.O[i]?).join).map Hnd.abs = _
    rw [List.getElem?_eq_getElem hi, hO]; rfl
  rw [hx']
  exact decide_eq_true hn
end Go.Proofs.YtcdmdkgiabfbeaaGreatDoor

/-
  A store with one file more; a string's bytes in a block of their own.
-/
namespace Go.Proofs.YtcdmdkgiabfbeaaGreatDoor
open Go.RowKit

theorem SRep.addL {m m' : Mem} {sb : Nat} {g : G} (r : SRep m sb g) (e : Ent) (hb : e.born = g.clock) (hkeep : ∀ b o, m b = some o → b ≠ g.mb → m' b = some o) (hmap : m' g.mb = some (mapObj (g.L ++ [e]) (g.clock + 1)))
    (hfile : m' e.fb = some (fileObj e)) (hrow : Row m' e.bv 5 1 e.bs.length (e.bs.map byteV)) (hfresh : m e.fb = none) (hown : ∀ b, e.bv.ownBlock = some b → m b = none) (hname : getE g.L e.name = none) (hnm : isNameB e.name = true)
    (hlen : g.L.length < 100) (hsz : e.bs.length ≤ 262144) : SRep m' sb { g with L := g.L ++ [e], clock := g.clock + 1 } := by
  have key : ∀ {b : Nat} {o : Obj}, m b = some o → (∀ L c, o ≠ mapObj L c) → m' b = some o := fun {b o} h1 h2 => hkeep b o h1 (fun h3 => by
    subst h3; rw [r.map] at h1; exact h2 _ _ (Option.some.inj h1).symm)
  have keyc : ∀ {b : Nat} {c : Array Value} {e : TypeId} {fz : Nat × Nat}, m b = some (.cells c e fz) → m' b = some (.cells c e fz) := fun h => key h (by simp [mapObj])
  have hno : ∀ d ∈ g.L, d.name ≠ e.name := fun d hd h => by
    have := getE_of r.names hd
    rw [h, hname] at this; cases this
  have hfbn : ∀ d ∈ g.L, d.fb ≠ e.fb := fun d hd h => by
    have := r.file d hd
    rw [h, hfresh] at this; cases this
  exact { r with
    store := keyc r.store
    map := hmap
    file := fun d hd => by
      rcases List.mem_append.1 hd with hd | hd
      · exact keyc (r.file d hd)
      · obtain rfl := List.mem_singleton.1 hd; exact hfile
    row := fun d hd => by
      rcases List.mem_append.1 hd with hd | hd
      · refine (r.row d hd).keep fun b o hb hm => ?_
        obtain ⟨cur, fz, hc⟩ := (r.row d hd).ty hb
        rw [hm] at hc
        obtain rfl := Option.some.inj hc
        exact keyc hm
      · obtain rfl := List.mem_singleton.1 hd; exact hrow
    names := by
      show ((g.L ++ [e]).map (·.name)).Nodup
      rw [List.map_append, List.nodup_append]
      refine ⟨r.names, by simp, fun a ha b hb => ?_⟩
      simp at hb
      subst hb
      obtain ⟨d, hd, rfl⟩ := List.mem_map.1 ha
      exact hno d hd
    fbs := by
      show ((g.L ++ [e]).map (·.fb)).Nodup
      rw [List.map_append, List.nodup_append]
      refine ⟨r.fbs, by simp, fun a ha b hb => ?_⟩
      simp at hb
      subst hb
      obtain ⟨d, hd, rfl⟩ := List.mem_map.1 ha
      exact hfbn d hd
    sep := fun d hd d' hd' hne b h1 h2 => by
      rcases List.mem_append.1 hd with hd1 | hd1 <;> rcases List.mem_append.1 hd' with hd2 | hd2
      · exact r.sep d hd1 d' hd2 hne b h1 h2
      · rw [List.mem_singleton.1 hd2] at h2
        obtain ⟨cur, fz, hc⟩ := (r.row d hd1).ty h1
        rw [hown b h2] at hc; cases hc
      · rw [List.mem_singleton.1 hd1] at h1
        obtain ⟨cur, fz, hc⟩ := (r.row d' hd2).ty h2
        rw [hown b h1] at hc; cases hc
      · exact hne (by rw [List.mem_singleton.1 hd1, List.mem_singleton.1 hd2])
    bornN := by
      show ((g.L ++ [e]).map (·.born)).Nodup
      rw [List.map_append, List.nodup_append]
      refine ⟨r.bornN, by simp, fun a ha b hb' => ?_⟩
      simp at hb'
      subst hb'
      obtain ⟨d, hd, rfl⟩ := List.mem_map.1 ha
      have := r.bornC d hd
      omega
    bornC := fun d hd => by
      show d.born < g.clock + 1
      rcases List.mem_append.1 hd with hd | hd
      · have := r.bornC d hd; omega
      · obtain rfl := List.mem_singleton.1 hd; omega
    fails := Row.keep r.fails fun b o hb hm => by
      obtain ⟨cur, fz, hc⟩ := Row.ty r.fails hb
      rw [hm] at hc
      obtain rfl := Option.some.inj hc
      exact keyc hm
    opens := r.opens.keep fun b o hb hm => by
      obtain ⟨cur, fz, hc⟩ := r.opens.ty hb
      rw [hm] at hc
      obtain rfl := Option.some.inj hc
      exact keyc hm
    hnd := fun h hh => keyc (r.hnd h hh)
    hof := fun h hh => by
      obtain ⟨d, hd, h1, h2⟩ := r.hof h hh
      exact ⟨d, by simp [hd], h1, h2⟩
    llen := by show (g.L ++ [e]).length ≤ 100; rw [List.length_append]; simp; omega
    nm := fun d hd => by
      rcases List.mem_append.1 hd with hd | hd
      · exact r.nm d hd
      · obtain rfl := List.mem_singleton.1 hd; exact hnm
    bsz := fun d hd => by
      rcases List.mem_append.1 hd with hd | hd
      · exact r.bsz d hd
      · obtain rfl := List.mem_singleton.1 hd; exact hsz }

theorem FP_addL {sb : Nat} {g : G} {e : Ent} {c : Nat} {b : Nat} (h : FP sb { g with L := g.L ++ [e], clock := c } b) : FP sb g b ∨ b = e.fb ∨ e.bv.ownBlock = some b := by
  rcases h with x | x | ⟨d, hd, x⟩ | x | x | x
  · exact .inl (.inl x)
  · exact .inl (.inr (.inl x))
  · rcases List.mem_append.1 hd with hd | hd
    · exact .inl (.inr (.inr (.inl ⟨d, hd, x⟩)))
    · obtain rfl := List.mem_singleton.1 hd
      rcases x with x | x
      · exact .inr (.inl x)
      · exact .inr (.inr x)
  · exact .inl (.inr (.inr (.inr (.inl x))))
  · exact .inl (.inr (.inr (.inr (.inr (.inl x)))))
  · exact .inl (.inr (.inr (.inr (.inr (.inr x)))))

theorem findAt_noneE {L : List Ent} {s : ByteArray} (h : getE L s = none) : findAt s L 0 = none := by
  have := findAt_get s L 0
  rw [h] at this
  cases hf : findAt s L 0 with
  | none => rfl
  | some p => rw [hf] at this; cases this

/-- '[]byte(s)'. -/
theorem conv_any (s : ByteArray) (w : World) (m : Mem) (hm : Has w m) (hs : s.size ≤ 1000000000) :
    ∃ a c w' m', (convert 9 26 (.string s)).run Tryz.prog w = .ok (.slice a s.size c) w' ∧ Env w w' ∧ Has w' m' ∧ m.le m' ∧ Row m' (.slice a s.size c) 5 1 s.size (s.data.toList.map byteV) ∧
      ∀ b, (Value.slice a s.size c).ownBlock = some b → m b = none := by
  have hr := run_bytes_of_string (P := Tryz.prog) w 9 26 5 s Tryz.underlying9 Tryz.underlying26 Tryz.underlying5
  have hge := grownCap_ge w s.size 0 5
  have hsz : s.data.toList.length = s.size := Array.length_toList
  have hML : maxLen = 9223372036854775807 := rfl
  have hfr := hm.fresh (Nat.le_refl w.heap.size)
  refine ⟨_, _, _, _, hr, (Env.refl w).drew.alloc _, hm.drew.alloc _, Mem.le_set _ _ hfr, ⟨by rw [List.length_map, hsz, Nat.mul_one], .inr ⟨w.heap.size, _, _, _, rfl, Mem.set_same _ _ _, ?_, hge, grownCap_le_maxLen w s.size 0 _ (by omega), ?_, ?_⟩⟩, fun b hb => ?_⟩
  · intro o ho
    simp; omega
  · simp [bytesRow]
    have : s.data.size = s.size := rfl
    omega
  · rw [Nat.mul_one]
    simp only [bytesRow, Array.toList_append, Array.toList_map]
    rw [List.take_append_of_le_length (by rw [List.length_map, hsz]; exact Nat.le_refl _), List.take_of_length_le (by rw [List.length_map, hsz]; exact Nat.le_refl _)]
    rfl
  · obtain rfl : w.heap.size = b := Option.some.inj hb
    exact hfr
end Go.Proofs.YtcdmdkgiabfbeaaGreatDoor

/-
  Open.
-/
import Derived.Test.YtcdmdkgiabfbeaaDoorWrite
import Derived.Test.YtcdmdkgiabfbeaaDoorAsks
namespace Go.Proofs.YtcdmdkgiabfbeaaDoor
open Go.RowKit

namespace A
/-- The lowest number that is free, less 1. -/
def free (a : A) : Option Nat := (List.range 32).find? fun i => (a.hnd i).isNone
def openX (a : A) (s : ByteArray) (mode : Int) : Int :=
  if a.now.2.1 ≠ 0 then a.now.2.1 else if isNameB s = false then -38 else if modeB mode = false then -20 else if (a.look s).isNone then -38 else if a.free.isNone then -8 else 0
def openF (a : A) (s : ByteArray) (mode : Int) : A × Int × Int :=
  if a.openX s mode ≠ 0 then (a.tick, a.openX s mode, 0) else (a.tick.setH (a.free.getD 0) (some (s, mode, 0)), 0, (a.free.getD 0 : Int) + 1)
end A

theorem nOpen_eq {O : List (Option Hnd)} (h : firstNone O = none) : nOpen O = O.length := by
  unfold firstNone at h
  rw [List.findIdx?_eq_none_iff] at h
  unfold nOpen
  rw [List.filter_eq_self.2]
  intro x hx
  have := h x hx
  cases x <;> simp_all
theorem nOpen_lt {O : List (Option Hnd)} {i : Nat} (h : firstNone O = some i) : nOpen O < O.length := by
  obtain ⟨hi, hn⟩ := firstNone_lt h
  rcases Nat.lt_or_ge (nOpen O) O.length with x | x
  · exact x
  · have : O.filter Option.isSome = O := List.Sublist.eq_of_length_le List.filter_sublist x
    have h2 : O[i] ∈ O.filter Option.isSome := by rw [this]; exact List.getElem_mem hi
    rw [List.mem_filter, hn] at h2
    simp at h2

theorem abs_free {m : Mem} {sb : Nat} {g : G} (r : SRep m sb g) : g.abs.free = if fullB g.O then none else some (addI g.O) := by
  have hl := r.olen
  have hh : ∀ i, ((g.abs.hnd i).isNone = ((g.O[i]?).join).isNone) := fun i => by
    show (((g.O[i]?).join).map Hnd.abs).isNone = _
    cases (g.O[i]?).join <;> rfl
  unfold A.free
  cases hf : firstNone g.O with
  | some i =>
    have hlt := nOpen_lt hf
    have h1 : fullB g.O = false := by unfold fullB; simp; omega
    rw [h1, if_neg (by simp)]
    obtain ⟨hi, hn⟩ := firstNone_lt hf
    have hI : addI g.O = i := by unfold addI; rw [hf]
    rw [hI, List.find?_eq_some_iff_getElem]
    have hf2 := hf
    unfold firstNone at hf2
    rw [List.findIdx?_eq_some_iff_getElem] at hf2
    obtain ⟨_, _, hall⟩ := hf2
    refine ⟨by rw [hh, List.getElem?_eq_getElem hi, hn]; rfl, i, by simp; omega, by simp, fun j hj => ?_⟩
    rw [List.getElem_range, hh, List.getElem?_eq_getElem (by omega)]
    have := hall j hj
    cases hx : g.O[j] with
    | none => rw [hx] at this; simp at this
    | some x => rfl
  | none =>
    have he := nOpen_eq hf
    have hI : addI g.O = g.O.length := by unfold addI; rw [hf]
    have hsome : ∀ i (hi : i < g.O.length), (g.O[i]).isNone = false := fun i hi => by
      unfold firstNone at hf
      rw [List.findIdx?_eq_none_iff] at hf
      exact hf _ (List.getElem_mem hi)
    by_cases h32 : g.O.length = 32
    · have h1 : fullB g.O = true := by unfold fullB; simp; omega
      rw [h1, if_pos rfl, List.find?_eq_none]
      intro j hj
      rw [List.mem_range] at hj
      rw [hh, List.getElem?_eq_getElem (by omega)]
      have := hsome j (by omega)
      cases hx : g.O[j] with
      | none => rw [hx] at this; simp at this
      | some x => simp
    · have h1 : fullB g.O = false := by unfold fullB; simp; omega
      rw [h1, if_neg (by simp), hI, List.find?_eq_some_iff_getElem]
      refine ⟨by rw [hh, List.getElem?_eq_none (Nat.le_refl _)]; rfl, g.O.length, by simp; omega, by simp, fun j hj => ?_⟩
      rw [List.getElem_range, hh, List.getElem?_eq_getElem hj]
      have := hsome j hj
      cases hx : g.O[j] with
      | none => rw [hx] at this; simp at this
      | some x => rfl

theorem abs_add {g : G} {h : Hnd} (ov : Value) : ({ g with ov := ov, O := addO g.O h } : G).abs = g.abs.setH (addI g.O) (some h.abs) := by
  simp only [G.abs, A.setH, A.mk.injEq, true_and, and_true]
  funext i
  unfold addO addI
  cases hf : firstNone g.O with
  | some j =>
    obtain ⟨hj, _⟩ := firstNone_lt hf
    simp only
    rw [List.getElem?_set]
    by_cases e : j = i
    · subst e; rw [if_pos rfl, if_pos hj]; simp
    · rw [if_neg e, if_neg (Ne.symm e)]
  | none =>
    simp only
    by_cases e : i = g.O.length
    · subst e
      rw [if_pos rfl, List.getElem?_append_right (Nat.le_refl _)]; simp
    · rw [if_neg e]
      rcases Nat.lt_or_ge i g.O.length with h1 | h1
      · rw [List.getElem?_append_left h1]
      · rw [List.getElem?_eq_none (by simp; omega), List.getElem?_eq_none h1]

theorem firstOf_open (a : A) (s : ByteArray) (mode : Int) (c1 c2 c3 c4 : Value) :
    firstOf a.now.2.1 [(c1, -38, !isNameB s), (c2, -20, !modeB mode), (c3, -38, (a.look s).isNone), (c4, -8, a.free.isNone)] = a.openX s mode := by
  unfold A.openX
  by_cases h0 : a.now.2.1 = 0
  · cases isNameB s <;> cases modeB mode <;> cases (a.look s).isNone <;> cases a.free.isNone <;> simp [firstOf, h0]
  · simp [firstOf, h0]

theorem openX_zero {a : A} {s : ByteArray} {mode : Int} (h : a.openX s mode = 0) : a.now.2.1 = 0 ∧ isNameB s = true ∧ modeB mode = true ∧ (a.look s).isNone = false ∧ a.free.isNone = false := by
  unfold A.openX at h
  by_cases h0 : a.now.2.1 = 0
  · rw [if_neg (fun c => c h0)] at h
    cases h1 : isNameB s <;> cases h2 : modeB mode <;> cases h3 : (a.look s).isNone <;> cases h4 : a.free.isNone <;> simp_all
  · rw [if_pos h0] at h; exact absurd h h0

set_option maxHeartbeats 4000000 in
theorem open_any (sb : Nat) (s : ByteArray) (mode : Int) (g : G) (w : World) (m : Mem) (hm : Has w m) (hr : SRep m sb g) (hG : GlobOk m) (h0 : ¬ FP sb g 0) (hn : g.n ≤ 999999) :
    Calls Tryd.prog 8 #[.pointer (some ⟨sb, 0, none⟩), .string s, .int .i64 mode] w
      (AnsB w fun v m2 x => OpR m sb g (fun _ => False) (g.abs.openF s mode) (fun _ i => v = .int .i64 i) m2 x) := by
  have hfr := hm.fresh (Nat.le_refl w.heap.size)
  have h1 := hm.alloc (.cells #[.pointer (some ⟨sb, 0, none⟩)] 24)
  have l1 := Mem.le_set m (.cells #[.pointer (some ⟨sb, 0, none⟩)] 24) hfr
  have bx := Mem.set_same m w.heap.size (.cells #[.pointer (some ⟨sb, 0, none⟩)] 24)
  have hnsb : sb ≠ w.heap.size := Ne.symm (Mem.ne_of_none hfr hr.store)
  have BG := begin_g sb g _ _ h1 (hr.le l1) hn
  have c0 : (w.alloc (.cells #[.pointer (some ⟨sb, 0, none⟩)] 24)).cell? ⟨w.heap.size, 0, none⟩ = some (.pointer (some ⟨sb, 0, none⟩)) := by rw [h1.cell bx]; rfl
  have hGs := (Fr.tick (Mem.le_refl ((m.set w.heap.size (.cells #[.pointer (some ⟨sb, 0, none⟩)] 24)).set sb (storeObj g.tick))) (fun _ => False)).glob (by rintro (x | x); exact h0 x; exact x) (hG.le l1)
  have frS := Fr.tick (Mem.le_refl ((m.set w.heap.size (.cells #[.pointer (some ⟨sb, 0, none⟩)] 24)).set sb (storeObj g.tick))) (fun _ => False)
  have HBG := Lib.hid BG
  have HR1 := Lib.hid (hr.le l1).count
  have HG1 := Lib.hid hGs
  have L1 := Lib.hid l1
  have FRS := Lib.hid frS
  have H0 := Lib.hid h0
  have BX := Lib.hid (show ((m.set w.heap.size (.cells #[.pointer (some ⟨sb, 0, none⟩)] 24)).set sb (storeObj g.tick)) w.heap.size = some (.cells #[.pointer (some ⟨sb, 0, none⟩)] 24 (0, 0)) from by rw [Mem.set_ne _ _ (Ne.symm hnsb)]; exact bx)
  have NA := Lib.hid ((Env.refl w).alloc (.cells #[.pointer (some ⟨sb, 0, none⟩)] 24))
  clear hm hr hG h0 hn h1 l1 bx BG hGs hnsb frS
  go_enter Tryd.func8, Tryd.ntmps8
  go_wp2_with fail
  clear c0
  generalize w.heap.size = pb at *
  refine HBG.out.mono ?_
  rintro e w2 ⟨v, m2, rfl, l2, h2, n2, ev, rfl, hev⟩
  have hsz := h2.fresh (Nat.le_refl w2.heap.size)
  have H2 := Lib.hid (h2.alloc (.cells #[.int .i64 g.now.1, .int .i64 g.now.2.1, .int .i64 g.now.2.2] 54))
  have l3 := Mem.le_set m2 (.cells #[.int .i64 g.now.1, .int .i64 g.now.2.1, .int .i64 g.now.2.2] 54) hsz
  have N2 := Lib.hid ((NA.out.trans n2).alloc (.cells #[.int .i64 g.now.1, .int .i64 g.now.2.1, .int .i64 g.now.2.2] 54))
  have HEV := Lib.hid (hev.le l3)
  have LL := Lib.hid (Mem.le_trans l2 l3)
  have c0 : w2.cell? ⟨pb, 0, none⟩ = some (.pointer (some ⟨sb, 0, none⟩)) := by rw [h2.cell (l2 _ _ BX.out)]; rfl
  have clt : pb < w2.heap.size := h2.lt (l2 _ _ BX.out)
  clear l2 h2 n2 hev l3 hsz
  simp only [failV]
  go_wp2_with fail
  obtain ⟨w3, hw3⟩ : ∃ w3, w2.alloc (.cells #[.int .i64 g.now.1, .int .i64 g.now.2.1, .int .i64 g.now.2.2] 54) = w3 := ⟨_, rfl⟩
  rw [hw3] at H2 N2
  try rw [hw3]
  clear hw3
  obtain ⟨m3, hm3⟩ : ∃ m3, m2.set w2.heap.size (.cells #[.int .i64 g.now.1, .int .i64 g.now.2.1, .int .i64 g.now.2.2] 54) = m3 := ⟨_, rfl⟩
  rw [hm3] at H2 LL HEV
  clear hm3 c0 clt
  have c0 : w3.cell? ⟨pb, 0, none⟩ = some (.pointer (some ⟨sb, 0, none⟩)) := by rw [H2.out.cell (LL.out _ _ BX.out)]; rfl
  have R3 := Lib.hid (HR1.out.le LL.out)
  have BX3 := Lib.hid (LL.out _ _ BX.out)
  refine wp_region_K 13 (fun w' => w'.cell? ⟨pb, 0, none⟩ = some (.pointer (some ⟨sb, 0, none⟩))) (by kernel_rfl) ?_
  have hS : (fun w' : World => w'.cell? ⟨pb, 0, none⟩ = some (.pointer (some ⟨sb, 0, none⟩))) w3.drew := c0
  refine wpAnyK_take (i := 0) (v := ?_) rfl (by kernel_rfl) (by kernel_rfl) (by kernel_rfl) (by kernel_rfl) (fun _ _ _ h => h) (Or.inl ⟨by rfl, ?_⟩) hS ?_
  rotate_left
  · intro w0 hS0; (try dsimp only at hS0); go_simp; try with_reducible rfl
  simp only [Act.put, List.setIfInBounds_toArray, List.set_cons_zero, List.set_cons_succ, List.getElem_toArray, List.getElem_cons_succ, List.getElem_cons_zero]
  refine wpAnyK_take (i := 1) (v := ?_) rfl (by kernel_rfl) (by kernel_rfl) (by kernel_rfl) (by kernel_rfl) (fun _ _ _ h => h) (Or.inl ⟨by rfl, ?_⟩) hS ?_
  rotate_left
  · intro w0 hS0; (try dsimp only at hS0); go_simp; try with_reducible rfl
  simp only [Act.put, List.setIfInBounds_toArray, List.set_cons_zero, List.set_cons_succ, List.getElem_toArray, List.getElem_cons_succ, List.getElem_cons_zero]
  refine wpAnyK_take (i := 3) (v := ?_) rfl (by kernel_rfl) (by kernel_rfl) (by kernel_rfl) (by kernel_rfl) (fun _ _ _ h => h) (Or.inl ⟨by rfl, ?_⟩) hS ?_
  rotate_left
  · intro w0 hS0; (try dsimp only at hS0); go_simp; try with_reducible rfl
  simp only [Act.put, List.setIfInBounds_toArray, List.set_cons_zero, List.set_cons_succ, List.getElem_toArray, List.getElem_cons_succ, List.getElem_cons_zero]
  refine wpAnyK_take (i := 5) (v := ?_) rfl (by kernel_rfl) (by kernel_rfl) (by kernel_rfl) (by kernel_rfl) (fun _ _ _ h => h) (Or.inl ⟨by rfl, ?_⟩) hS ?_
  rotate_left
  · intro w0 hS0; (try dsimp only at hS0); go_simp; try with_reducible rfl
  simp only [Act.put, List.setIfInBounds_toArray, List.set_cons_zero, List.set_cons_succ, List.getElem_toArray, List.getElem_cons_succ, List.getElem_cons_zero]
  refine wpAnyK_take (i := 6) (v := ?_) rfl (by kernel_rfl) (by kernel_rfl) (by kernel_rfl) (by kernel_rfl) (fun _ _ _ h => h) (Or.inl ⟨by rfl, ?_⟩) hS ?_
  rotate_left
  · intro w0 hS0; (try dsimp only at hS0); go_simp; try with_reducible rfl
  simp only [Act.put, List.setIfInBounds_toArray, List.set_cons_zero, List.set_cons_succ, List.getElem_toArray, List.getElem_cons_succ, List.getElem_cons_zero]
  refine wpAnyK_take (i := 8) (v := ?_) rfl (by kernel_rfl) (by kernel_rfl) (by kernel_rfl) (by kernel_rfl) (fun _ _ _ h => h) (Or.inl ⟨by rfl, ?_⟩) hS ?_
  rotate_left
  · intro w0 hS0; (try dsimp only at hS0); go_simp; try with_reducible rfl
  simp only [Act.put, List.setIfInBounds_toArray, List.set_cons_zero, List.set_cons_succ, List.getElem_toArray, List.getElem_cons_succ, List.getElem_cons_zero]
  refine wpAnyK_one (i := 2) rfl (by kernel_rfl) rfl ?_
  go_simp
  refine (named_any s _ _ H2.out.drew).mono ?_
  rintro e1 w4 ⟨v1, m4, rfl, l4, h4, n4, hv1⟩
  have H4 := Lib.hid h4
  have N4 := Lib.hid (N2.out.drew.trans n4)
  have L4 := Lib.hid l4
  have C1 := Lib.hid hv1
  have s4 : w4.cell? ⟨pb, 0, none⟩ = some (.pointer (some ⟨sb, 0, none⟩)) := by rw [h4.cell (l4 _ _ BX3.out)]; rfl
  clear l4 h4 n4 hv1
  refine ⟨s4, ?_⟩
  refine wpAnyK_one (i := 4) rfl (by kernel_rfl) rfl ?_
  go_simp
  refine (moded_any mode _ _ H4.out).mono ?_
  rintro e1 w5 ⟨v2, m5, rfl, l5, h5, n5, hv2⟩
  have H5 := Lib.hid h5
  have N5 := Lib.hid (N4.out.trans n5)
  have L5 := Lib.hid (Mem.le_trans L4.out l5)
  have K1 := Lib.hid (C1.out.le l5)
  have C2 := Lib.hid hv2
  have s5 : w5.cell? ⟨pb, 0, none⟩ = some (.pointer (some ⟨sb, 0, none⟩)) := by rw [h5.cell (L5.out _ _ BX3.out)]; rfl
  clear l5 h5 n5 hv2 C1
  refine ⟨s5, ?_⟩
  refine wpAnyK_one (i := 7) rfl (by kernel_rfl) rfl ?_
  go_simp
  refine (there_any sb _ s _ _ H5.out (R3.out.le L5.out)).mono ?_
  rintro e1 w6 ⟨v3, m6, rfl, l6, h6, n6, hv3⟩
  have H6 := Lib.hid h6
  have N6 := Lib.hid (N5.out.trans n6)
  have L6 := Lib.hid (Mem.le_trans L5.out l6)
  have K1 := Lib.hid (K1.out.le l6)
  have K2 := Lib.hid (C2.out.le l6)
  have C3 := Lib.hid hv3
  have s6 : w6.cell? ⟨pb, 0, none⟩ = some (.pointer (some ⟨sb, 0, none⟩)) := by rw [h6.cell (L6.out _ _ BX3.out)]; rfl
  clear l6 h6 n6 hv3 C2
  refine ⟨s6, ?_⟩
  refine wpAnyK_one (i := 9) rfl (by kernel_rfl) rfl ?_
  go_simp
  refine (when_any (-8) _ _ (fullB g.O) _ _ H6.out ⟨_, _, rfl, enters_ofull1, fun w1 m1 l h1 => ofull1_any pb sb g.tick w1 m1 h1 (R3.out.le (Mem.le_trans L6.out l)) (l _ _ (L6.out _ _ BX3.out))⟩).mono ?_
  rintro e1 w7 ⟨v4, m7, rfl, l7, h7, n7, hv4⟩
  have H7 := Lib.hid h7
  have N7 := Lib.hid (N6.out.trans n7)
  have L7 := Lib.hid (Mem.le_trans L6.out l7)
  have K1 := Lib.hid (K1.out.le l7)
  have K2 := Lib.hid (K2.out.le l7)
  have K3 := Lib.hid (C3.out.le l7)
  have K4 := Lib.hid hv4
  have s7 : w7.cell? ⟨pb, 0, none⟩ = some (.pointer (some ⟨sb, 0, none⟩)) := by rw [h7.cell (L7.out _ _ BX3.out)]; rfl
  clear l7 h7 n7 hv4 C3
  refine ⟨s7, ?_⟩
  obtain ⟨p1, q1, i1, hc1, _⟩ := K1.out.imp (fun _ h => h)
  obtain ⟨p2, q2, i2, hc2, _⟩ := K2.out.imp (fun _ h => h)
  obtain ⟨p3, q3, i3, hc3, _⟩ := K3.out.imp (fun _ h => h)
  obtain ⟨p4, q4, i4, hc4, _⟩ := K4.out.imp (fun _ h => h)
  subst hc1
  subst hc2
  subst hc3
  subst hc4
  refine wpAnyK_one (i := 10) rfl (by kernel_rfl) rfl ?_
  go_simp
  have hal := H7.out.alloc (.cells #[.func (.func 54) #[] #[.pointer (some ⟨p1, 0, none⟩), .pointer (some ⟨q1, 0, none⟩)], .func (.func 54) #[] #[.pointer (some ⟨p2, 0, none⟩), .pointer (some ⟨q2, 0, none⟩)],
    .func (.func 54) #[] #[.pointer (some ⟨p3, 0, none⟩), .pointer (some ⟨q3, 0, none⟩)], .func (.func 54) #[] #[.pointer (some ⟨p4, 0, none⟩), .pointer (some ⟨q4, 0, none⟩)]] 70)
  have lal := Mem.le_set m7 (.cells #[.func (.func 54) #[] #[.pointer (some ⟨p1, 0, none⟩), .pointer (some ⟨q1, 0, none⟩)], .func (.func 54) #[] #[.pointer (some ⟨p2, 0, none⟩), .pointer (some ⟨q2, 0, none⟩)],
    .func (.func 54) #[] #[.pointer (some ⟨p3, 0, none⟩), .pointer (some ⟨q3, 0, none⟩)], .func (.func 54) #[] #[.pointer (some ⟨p4, 0, none⟩), .pointer (some ⟨q4, 0, none⟩)]] 70) (H7.out.fresh (Nat.le_refl _))
  refine ⟨by rw [hal.cell (lal _ _ (L7.out _ _ BX3.out))]; rfl, ?_⟩
  refine wpAnyK_one (i := 11) rfl (by kernel_rfl) rfl ?_
  go_simp
  have FA := first_any ev g.now.2.1 w7.heap.size [(.func (.func 54) #[] #[.pointer (some ⟨p1, 0, none⟩), .pointer (some ⟨q1, 0, none⟩)], -38, !isNameB s), (.func (.func 54) #[] #[.pointer (some ⟨p2, 0, none⟩), .pointer (some ⟨q2, 0, none⟩)], -20, !modeB mode),
    (.func (.func 54) #[] #[.pointer (some ⟨p3, 0, none⟩), .pointer (some ⟨q3, 0, none⟩)], -38, (getE g.L s).isNone), (.func (.func 54) #[] #[.pointer (some ⟨p4, 0, none⟩), .pointer (some ⟨q4, 0, none⟩)], -8, fullB g.O)] _ _ hal ((HEV.out.le L7.out).le lal) (Mem.set_same _ _ _)
    (fun c hc => by
      simp only [List.mem_cons, List.not_mem_nil, or_false] at hc
      rcases hc with rfl | rfl | rfl | rfl
      · exact ⟨K1.out.le lal, show (-38 : Int) ≠ 0 by decide⟩
      · exact ⟨K2.out.le lal, show (-20 : Int) ≠ 0 by decide⟩
      · exact ⟨K3.out.le lal, show (-38 : Int) ≠ 0 by decide⟩
      · exact ⟨K4.out.le lal, show (-8 : Int) ≠ 0 by decide⟩) (by simp)
  refine FA.mono ?_
  rintro e1 w8 ⟨v8, m8, rfl, l8, h8, n8, hv8⟩
  have hX := firstOf_open g.abs s mode (.func (.func 54) #[] #[.pointer (some ⟨p1, 0, none⟩), .pointer (some ⟨q1, 0, none⟩)]) (.func (.func 54) #[] #[.pointer (some ⟨p2, 0, none⟩), .pointer (some ⟨q2, 0, none⟩)])
    (.func (.func 54) #[] #[.pointer (some ⟨p3, 0, none⟩), .pointer (some ⟨q3, 0, none⟩)]) (.func (.func 54) #[] #[.pointer (some ⟨p4, 0, none⟩), .pointer (some ⟨q4, 0, none⟩)])
  have hfree : g.abs.free.isNone = fullB g.O := by
    have := abs_free R3.out
    rw [show g.abs.free = (if fullB g.O then none else some (addI g.O)) from this]
    cases fullB g.O <;> rfl
  have hlk : (g.abs.look s).isNone = (getE g.L s).isNone := by
    show ((getE g.L s).map (·.bs)).isNone = _
    cases getE g.L s <;> rfl
  rw [hfree, hlk] at hX
  change firstOf g.now.2.1 _ = _ at hX
  rw [hX] at hv8
  have L8 := Lib.hid (Mem.le_trans L7.out (Mem.le_trans lal l8))
  have H8 := Lib.hid h8
  have N8 := Lib.hid ((N7.out.alloc (.cells #[.func (.func 54) #[] #[.pointer (some ⟨p1, 0, none⟩), .pointer (some ⟨q1, 0, none⟩)], .func (.func 54) #[] #[.pointer (some ⟨p2, 0, none⟩), .pointer (some ⟨q2, 0, none⟩)],
    .func (.func 54) #[] #[.pointer (some ⟨p3, 0, none⟩), .pointer (some ⟨q3, 0, none⟩)], .func (.func 54) #[] #[.pointer (some ⟨p4, 0, none⟩), .pointer (some ⟨q4, 0, none⟩)]] 70)).trans n8)
  have V8 := Lib.hid hv8
  have s8 : w8.cell? ⟨pb, 0, none⟩ = some (.pointer (some ⟨sb, 0, none⟩)) := by rw [h8.cell (L8.out _ _ BX3.out)]; rfl
  have HFREE := Lib.hid hfree
  clear hal lal FA l8 h8 n8 hv8 hX hfree hlk s4 s5 s6 s7 hS c0
  refine ⟨s8, ?_⟩
  refine wpAnyK_one (i := 12) rfl (by kernel_rfl) rfl ?_
  go_simp
  refine wpAnyK_done (by kernel_rfl) ?_ _
  by_cases hx : g.abs.openX s mode = 0
  · obtain rfl : v8 = .nilIface := by
      rcases V8.out with ⟨_, h⟩ | ⟨h, _⟩
      · exact h
      · exact absurd hx h
    have HX := Lib.hid hx
    obtain ⟨e, he⟩ : ∃ e, getE g.L s = some e := by
      obtain ⟨_, _, _, h1, _⟩ := openX_zero hx
      cases hg : getE g.L s with
      | some e => exact ⟨e, rfl⟩
      | none =>
        have h2 : (g.abs.look s).isNone = true := by show ((getE g.L s).map (·.bs)).isNone = true; rw [hg]; rfl
        rw [h1] at h2; cases h2
    have hfb : fullB g.O = false := by
      obtain ⟨_, _, _, _, h1⟩ := openX_zero hx
      rw [← HFREE.out]; exact h1
    have r8 := R3.out.le L8.out
    have t0 : w8.cell? ⟨sb, 0, none⟩ = some (.map (some g.mb)) := by rw [H8.out.cell r8.store]; rfl
    have t1 : w8.heap[g.mb]? = some (.map (g.L.map Ent.entry).toArray g.clock) := H8.out _ _ r8.map
    have hlk : ∀ w0 : World, w0.heap[g.mb]? = some (.map (g.L.map Ent.entry).toArray g.clock) → (Instr.lookup 51 (.map (some g.mb)) (.string s) false).run Tryd.prog w0 = .ok (.pointer (some ⟨e.fb, 0, none⟩)) w0 := fun w0 h => by
      rw [run_lookupF g.mb g.clock g.L s w0 h, lookV_some he]
    have HE := Lib.hid he
    have HFB := Lib.hid hfb
    have R8 := Lib.hid r8
    clear hx he hfb r8
    go_wp2_with fail
    refine wp_region_K 8 (fun w' => w'.cell? ⟨pb, 0, none⟩ = some (.pointer (some ⟨sb, 0, none⟩)) ∧ w'.cell? ⟨sb, 0, none⟩ = some (.map (some g.mb)) ∧ w'.heap[g.mb]? = some (.map (g.L.map Ent.entry).toArray g.clock)) (by kernel_rfl) ?_
    have hS : (fun w' : World => w'.cell? ⟨pb, 0, none⟩ = some (.pointer (some ⟨sb, 0, none⟩)) ∧ w'.cell? ⟨sb, 0, none⟩ = some (.map (some g.mb)) ∧ w'.heap[g.mb]? = some (.map (g.L.map Ent.entry).toArray g.clock)) w8.drew := ⟨s8, t0, t1⟩
    refine wpAnyK_take (i := 0) (v := ?_) rfl (by kernel_rfl) (by kernel_rfl) (by kernel_rfl) (by kernel_rfl) (fun _ _ _ h => h) (Or.inl ⟨by rfl, ?_⟩) hS ?_
    rotate_left
    · intro w0 hS0; obtain ⟨q0, q1, q2⟩ := hS0; go_simp; try with_reducible rfl
    simp only [Act.put, List.setIfInBounds_toArray, List.set_cons_zero, List.set_cons_succ, List.getElem_toArray, List.getElem_cons_succ, List.getElem_cons_zero]
    refine wpAnyK_take (i := 1) (v := ?_) rfl (by kernel_rfl) (by kernel_rfl) (by kernel_rfl) (by kernel_rfl) (fun _ _ _ h => h) (Or.inl ⟨by rfl, ?_⟩) hS ?_
    rotate_left
    · intro w0 hS0; obtain ⟨q0, q1, q2⟩ := hS0; go_simp; try with_reducible rfl
    simp only [Act.put, List.setIfInBounds_toArray, List.set_cons_zero, List.set_cons_succ, List.getElem_toArray, List.getElem_cons_succ, List.getElem_cons_zero]
    refine wpAnyK_take (i := 2) (v := ?_) rfl (by kernel_rfl) (by kernel_rfl) (by kernel_rfl) (by kernel_rfl) (fun _ _ _ h => h) (Or.inl ⟨by rfl, ?_⟩) hS ?_
    rotate_left
    · intro w0 hS0; obtain ⟨q0, q1, q2⟩ := hS0; go_simp; try with_reducible rfl
    simp only [Act.put, List.setIfInBounds_toArray, List.set_cons_zero, List.set_cons_succ, List.getElem_toArray, List.getElem_cons_succ, List.getElem_cons_zero]
    refine wpAnyK_take (i := 3) (v := ?_) rfl (by kernel_rfl) (by kernel_rfl) (by kernel_rfl) (by kernel_rfl) (fun _ _ _ h => h) (Or.inl ⟨by rfl, ?_⟩) hS ?_
    rotate_left
    · intro w0 hS0; obtain ⟨q0, q1, q2⟩ := hS0; go_simp; try with_reducible rfl
    simp only [Act.put, List.setIfInBounds_toArray, List.set_cons_zero, List.set_cons_succ, List.getElem_toArray, List.getElem_cons_succ, List.getElem_cons_zero]
    refine wpAnyK_take (i := 4) (v := ?_) rfl (by kernel_rfl) (by kernel_rfl) (by kernel_rfl) (by kernel_rfl) (fun _ _ _ h => h) (Or.inl ⟨by rfl, ?_⟩) hS ?_
    rotate_left
    · intro w0 hS0; obtain ⟨q0, q1, q2⟩ := hS0; go_simp; try with_reducible rfl
    simp only [Act.put, List.setIfInBounds_toArray, List.set_cons_zero, List.set_cons_succ, List.getElem_toArray, List.getElem_cons_succ, List.getElem_cons_zero]
    refine wpAnyK_take (i := 5) (v := ?_) rfl (by kernel_rfl) (by kernel_rfl) (by kernel_rfl) (by kernel_rfl) (fun _ _ _ h => h) (Or.inl ⟨by rfl, ?_⟩) hS ?_
    rotate_left
    · intro w0 hS0; obtain ⟨q0, q1, q2⟩ := hS0; go_simp; try with_reducible rfl
    simp only [Act.put, List.setIfInBounds_toArray, List.set_cons_zero, List.set_cons_succ, List.getElem_toArray, List.getElem_cons_succ, List.getElem_cons_zero]
    refine wpAnyK_take (i := 6) (v := ?_) rfl (by kernel_rfl) (by kernel_rfl) (by kernel_rfl) (by kernel_rfl) (fun _ _ _ h => h) (Or.inl ⟨by rfl, ?_⟩) hS ?_
    rotate_left
    · intro w0 hS0; obtain ⟨q0, q1, q2⟩ := hS0; go_simp; try with_reducible rfl
    simp only [Act.put, List.setIfInBounds_toArray, List.set_cons_zero, List.set_cons_succ, List.getElem_toArray, List.getElem_cons_succ, List.getElem_cons_zero]
    refine wpAnyK_take (i := 7) (v := ?_) rfl (by kernel_rfl) (by kernel_rfl) (by kernel_rfl) (by kernel_rfl) (fun _ _ _ h => h) (Or.inl ⟨by rfl, ?_⟩) hS ?_
    rotate_left
    · intro w0 hS0; obtain ⟨q0, q1, q2⟩ := hS0; go_simp; try with_reducible rfl
    simp only [Act.put, List.setIfInBounds_toArray, List.set_cons_zero, List.set_cons_succ, List.getElem_toArray, List.getElem_cons_succ, List.getElem_cons_zero]
    refine wpAnyK_one (i := 8) rfl (by kernel_rfl) rfl ?_
    go_simp
    refine (add_any sb g.tick e mode w8.drew m8 H8.out.drew R8.out (getE_mem HE.out) HFB.out).mono ?_
    rintro e1 w9 ⟨ob, ov', m9, rfl, hnob, h9, n9, r9, f9⟩
    have H9 := Lib.hid h9
    have N9 := Lib.hid (N8.out.drew.trans n9)
    have R9 := Lib.hid r9
    have F9 := Lib.hid f9
    clear h9 n9 r9 f9 hnob hS hlk t0 t1
    simp only [Act.put, List.setIfInBounds_toArray, List.set_cons_zero, List.set_cons_succ, List.getElem_toArray, List.getElem_cons_succ, List.getElem_cons_zero]
    refine wpAnyK_one (i := 9) rfl (by kernel_rfl) rfl ?_
    go_simp
    refine wpAnyK_one (i := 10) rfl (by kernel_rfl) rfl ?_
    go_simp
    refine wpAnyK_done (by kernel_rfl) ?_ _
    go_wp2_with fail
    refine bodyPost_ret (v := .tuple #[.int .i64 ((addI g.O : Int) + 1), .int .i64 0]) (by simp [results, Tryd.results8, go_sem]; rfl) rfl ?_
    have hfr : g.abs.free = some (addI g.O) := by
      have := abs_free R8.out
      rw [show g.abs.free = (if fullB g.O then none else some (addI g.O)) from this, HFB.out]; rfl
    have hF : g.abs.openF s mode = (g.abs.tick.setH (addI g.O) (some (s, mode, 0)), 0, (addI g.O : Int) + 1) := by
      unfold A.openF; rw [if_neg (fun c => c HX.out), hfr]; rfl
    rw [hF]
    have hop : OpR (β := Int) _ sb g (fun _ => False) (g.abs.tick.setH (addI g.O) (some (s, mode, 0)), 0, (addI g.O : Int) + 1) (fun _ i => Value.int .i64 ((addI g.O : Int) + 1) = .int .i64 i) m9 0 :=
      ⟨_, R9.out, ((FRS.out.le (Mem.le_trans LL.out L8.out)).trans (F9.out.more _)).mono (fun b hb => .inr (.inl hb)), by rw [← getE_name HE.out]; exact abs_add (g := g.tick) ov', rfl, rfl⟩
    exact ⟨_, _, m9, rfl, H9.out, N9.out, hop.ahead L1.out (fun _ h => h.elim) (fun h => h)⟩
  · obtain ⟨b4, hb4⟩ : ∃ b, v8 = .iface 98 (.pointer (some ⟨b, 0, none⟩)) := by
      rcases V8.out with ⟨h, _⟩ | ⟨_, b, h, _⟩
      · exact absurd h hx
      · exact ⟨b, h⟩
    subst hb4
    have HX := Lib.hid hx
    clear hx
    go_wp2_with fail
    have g8 : GlobOk m8 := (HG1.out.le LL.out).le L8.out
    refine (ior_any _ _ _ _ H8.out g8 V8.out).mono ?_
    rintro e1 w9 ⟨v9, m9, rfl, l9, h9, n9, rfl⟩
    have L9 := Lib.hid (Mem.le_trans LL.out (Mem.le_trans L8.out l9))
    have H9 := Lib.hid h9
    have N9 := Lib.hid (N8.out.trans n9)
    clear l9 h9 n9 g8
    go_wp2_with fail
    refine bodyPost_ret (v := .tuple #[.int .i64 0, .int .i64 (g.abs.openX s mode)]) (by simp [results, Tryd.results8, go_sem]) rfl ?_
    have hF : g.abs.openF s mode = (g.abs.tick, g.abs.openX s mode, 0) := by unfold A.openF; rw [if_pos HX.out]
    rw [hF]
    have hop : OpR (β := Int) _ sb g (fun _ => False) (g.abs.tick, g.abs.openX s mode, 0) (fun _ i => Value.int .i64 0 = .int .i64 i) m9 (g.abs.openX s mode) :=
      ⟨g.tick, HR1.out.le L9.out, (FRS.out.le L9.out).mono (fun b hb => .inl (.inl hb)), rfl, rfl, rfl⟩
    exact ⟨_, _, m9, rfl, H9.out, N9.out, hop.ahead L1.out (fun _ h => h.elim) (fun h => h)⟩
end Go.Proofs.YtcdmdkgiabfbeaaDoor

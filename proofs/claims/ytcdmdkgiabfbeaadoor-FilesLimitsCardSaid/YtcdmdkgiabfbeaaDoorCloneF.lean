/-
  slices.Clone of fails.
-/
import Derived.Test.YtcdmdkgiabfbeaaDoorClone
import Derived.Test.YtcdmdkgiabfbeaaDoorBegin
namespace Go.Proofs.YtcdmdkgiabfbeaaDoor
open Go.RowKit

/-- A window of elements, somewhere in a block: n of them, their cells xs. -/
def WindK (m : Mem) (v : Value) (n : Nat) (xs : List Value) : Prop :=
  (v = .slice none 0 0 ∧ n = 0) ∨ ∃ A cap, v = .slice (some A) n cap ∧ (0 < n → ∃ g o, A = ⟨g, o, none⟩ ∧ Cells m g o xs)
theorem WindK.le {m m' : Mem} {v : Value} {n : Nat} {xs : List Value} (h : WindK m v n xs) (l : m.le m') : WindK m' v n xs := by
  rcases h with h | ⟨A, cap, h1, h3⟩
  · exact .inl h
  · refine .inr ⟨A, cap, h1, fun hp => ?_⟩
    obtain ⟨g, o, h4, h5⟩ := h3 hp
    exact ⟨g, o, h4, h5.le l⟩
theorem WindK.at {m : Mem} {n g o cap : Nat} {xs : List Value} (h : Cells m g o xs) : WindK m (.slice (some ⟨g, o, none⟩) n cap) n xs := .inr ⟨_, _, rfl, fun _ => ⟨g, o, rfl, h⟩⟩
theorem WindK.cells {m : Mem} {v : Value} {n : Nat} {xs : List Value} (h : WindK m v n xs) (hp : 0 < n) : ∃ g o cap, v = .slice (some ⟨g, o, none⟩) n cap ∧ Cells m g o xs := by
  rcases h with ⟨_, h⟩ | ⟨A, cap, h1, h3⟩
  · omega
  · obtain ⟨g, o, rfl, h5⟩ := h3 hp
    exact ⟨g, o, cap, h1, h5⟩

theorem nilNilF (w : World) : (binOp .eql 44 (.slice none 0 0) (.slice none 0 0)).run Tryd.prog w = .ok (.bool true) w := by kernel_rfl
theorem nilF (a : Addr) (n c : Nat) (w : World) : (binOp .eql 44 (.slice (some a) n c) (.slice none 0 0)).run Tryd.prog w = .ok (.bool false) w := by kernel_rfl
theorem infoF : (Tryd.prog.info? 54).map (fun i => (i.zero, i.size, i.bytes)) = some (some (.agg #[.int .i64 0, .int .i64 0, .int .i64 0]), 3, 24) := by kernel_rfl

theorem failCells_length (l : List Fail3) : (l.flatMap failCells).length = l.length * 3 := by
  induction l with
  | nil => rfl
  | cons f l ih => rw [List.flatMap_cons, List.length_append, ih, List.length_cons]; simp [failCells]; omega

set_option maxHeartbeats 1000000 in
set_option maxRecDepth 100000 in
theorem cloneF_any (y : Value) (l : List Fail3) (w : World) (m : Mem) (hm : Has w m) (hy : WindK m y l.length (l.flatMap failCells)) (hl : l.length ≤ 1000000) :
    Calls Tryd.prog 19 #[y] w (Post w m fun v m' => Fails m' v l ∧ ∀ b, v.ownBlock = some b → m b = none) := by
  have H := Lib.hid hm
  rcases hy with ⟨rfl, h⟩ | ⟨A, cap, rfl, hcells⟩
  · have hl0 : l = [] := List.eq_nil_of_length_eq_zero h
    subst hl0
    have hnn := nilNilF
    clear hm h
    go_enter Tryd.func19, Tryd.ntmps19
    go_wp2_with fail
    go_ret
    exact Post.mk _ (Mem.le_refl _) H.out (Env.refl _) ⟨Row.nil _ _ _, fun b hb => by cases hb⟩
  · have hnb := nilF A l.length cap
    have h1 := hm.alloc (.cells #[] 54)
    have k1 := Mem.le_set m (.cells #[] 54) (hm.fresh (Nat.le_refl _))
    obtain ⟨i0, hi, hz0, hz1, hz2⟩ := info_parts infoF
    have r0 : Row (m.set w.heap.size (.cells #[] 54)) (.slice (some ⟨w.heap.size, 0, none⟩) 0 0) 54 3 0 [] :=
      ⟨by simp, .inr ⟨w.heap.size, 0, #[], (0, 0), rfl, Mem.set_same _ _ _, Thaw.zero _, Nat.le_refl _, by decide, by simp, rfl⟩⟩
    obtain ⟨v', w2, m2, hrun, he2, hh2, hrow2, hgr2⟩ : ∃ v' w' m', (Builtin.append_ #[44, 44] 44 #[.slice (some ⟨w.heap.size, 0, none⟩) 0 0, .slice (some A) l.length cap]).run Tryd.prog (w.alloc (.cells #[] 54)) = .ok v' w' ∧
        Env (w.alloc (.cells #[] 54)) w' ∧ Has w' m' ∧ Row m' v' 54 3 (0 + l.length) ([] ++ l.flatMap failCells) ∧ Grows (m.set w.heap.size (.cells #[] 54)) m' (.slice (some ⟨w.heap.size, 0, none⟩) 0 0) v' := by
      rcases Nat.eq_zero_or_pos l.length with h0 | h0
      · have hl0 : l = [] := List.eq_nil_of_length_eq_zero h0
        subst hl0
        have hs : Src Tryd.prog i0.size 44 (.slice (some A) 0 cap) 0 [] (w.alloc (.cells #[] 54)) := Src.ofSlice _ Tryd.underlying44 A 0 cap [] (by simp) (by simp) (by simp)
        exact ⟨_, _, _, run_append_nothing _ 44 44 44 54 i0 Tryd.underlying44 hi (some ⟨w.heap.size, 0, none⟩) 0 0 (Nat.le_refl _) _ hs, Env.refl _, h1, by simpa using r0, .inl ⟨rfl, rfl⟩⟩
      · obtain ⟨g, o, rfl, hcl⟩ := hcells h0
        exact run_append_row (P := Tryd.prog) 44 44 54 i0 _ 3 24 Tryd.underlying44 hi hz0 hz1 hz2 rfl (by decide) h1 _ 0 [] r0 g o l.length cap (l.flatMap failCells) (failCells_length l) (hcl.le k1)
          (fun u hu => by
            obtain ⟨f, _, hf⟩ := List.mem_flatMap.1 hu
            simp only [failCells, List.mem_cons, List.not_mem_nil, or_false] at hf
            rcases hf with rfl | rfl | rfl <;> rfl) h0 (by omega) (by omega)
    have HFR := Lib.hid (hm.fresh (Nat.le_refl w.heap.size))
    have K1 := Lib.hid k1
    have HE2 := Lib.hid he2
    have HH2 := Lib.hid hh2
    have HROW := Lib.hid hrow2
    have HGR := Lib.hid hgr2
    clear hm hcells h1 k1 r0 hi hz0 hz1 hz2 he2 hh2 hrow2 hgr2
    go_enter Tryd.func19, Tryd.ntmps19
    go_wp2_with (at_builtin; refine wpList_b2 rfl .append Builtin.append_ (fun _ _ _ _ => rfl) _ _ _ _ rfl rfl rfl hrun ?_)
    go_ret
    have hle : m.le m2 := fun b ob hb => HGR.out.keep (K1.out _ _ hb) (fun e => by
      simp only [Value.ownBlock, Option.some.injEq] at e
      subst e; rw [HFR.out] at hb; cases hb)
    refine Post.mk m2 hle HH2.out (((Env.refl w).alloc _).trans HE2.out) ⟨by have := HROW.out; rw [Nat.zero_add, List.nil_append] at this; exact this, fun b hb => ?_⟩
    change v'.ownBlock = some b at hb
    cases hmb : m b with
    | none => rfl
    | some ob =>
      exfalso
      have h3 : b = w.heap.size ∨ (m.set w.heap.size (.cells #[] 54)) b = none := by
        rcases HGR.out with ⟨_, h2⟩ | ⟨gb, oo, h1, _, h3⟩
        · rw [h2] at hb; exact .inl (Option.some.inj hb).symm
        · rw [h1] at hb
          obtain rfl := Option.some.inj hb
          rcases h3 with h3 | h3
          · exact .inl (Option.some.inj h3).symm
          · exact .inr h3
      rcases h3 with h3 | h3
      · subst h3; rw [HFR.out] at hmb; cases hmb
      · rw [K1.out _ _ hmb] at h3; cases h3
end Go.Proofs.YtcdmdkgiabfbeaaDoor

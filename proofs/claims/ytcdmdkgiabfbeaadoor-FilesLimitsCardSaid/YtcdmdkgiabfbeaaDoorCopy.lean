/-
  The copy of bytes into a file.
-/
import Derived.Test.YtcdmdkgiabfbeaaDoorRead
import Derived.Laws.IdiomCopy
namespace Go.Proofs.YtcdmdkgiabfbeaaDoor
open Go.RowKit

/-- Bytes overwritten from a place on. -/
def wr (bs : List UInt8) (p : Nat) (xs : List UInt8) : List UInt8 := bs.take p ++ xs ++ bs.drop (p + xs.length)
theorem wr_length {bs xs : List UInt8} {p : Nat} (h : p + xs.length ≤ bs.length) : (wr bs p xs).length = bs.length := by
  unfold wr; simp; omega
theorem wr_nil (bs : List UInt8) (p : Nat) : wr bs p [] = bs := by unfold wr; simp

theorem wr_get {bs xs : List UInt8} {p : Nat} (h : p + xs.length ≤ bs.length) (j : Nat) : (wr bs p xs)[j]? = if p ≤ j ∧ j < p + xs.length then xs[j - p]? else bs[j]? := by
  unfold wr
  by_cases h1 : p ≤ j
  · by_cases h2 : j < p + xs.length
    · rw [if_pos ⟨h1, h2⟩, List.getElem?_append_left (by simp; omega), List.getElem?_append_right (by simp; omega)]
      congr 1; simp; omega
    · rw [if_neg (by omega), List.getElem?_append_right (by simp; omega), List.getElem?_drop]
      congr 1; simp; omega
  · rw [if_neg (by omega), List.getElem?_append_left (by simp; omega), List.getElem?_append_left (by simp; omega), List.getElem?_take, if_pos (by omega)]

theorem sizeB1 : (Tryd.prog.info? 5).map (·.size) = some 1 := by kernel_rfl

theorem copy_any (v y : Value) (n pos : Nat) (bs xs : List UInt8) (m : Mem) (T : TypeId) (hrow : Row m v 5 1 n (bs.map byteV)) (hbl : bs.length = n) (hy : WindZ m y xs) (hp : pos + xs.length ≤ n)
    (hsep : 0 < xs.length → ∀ b, y.ownBlk = some b → v.ownBlock ≠ some b) :
    ∃ sv, (∀ w', (Instr.slice 33 v (some (.int .i64 pos)) none none).run Tryd.prog w' = .ok sv w') ∧
      ∀ w, Has w m → ∃ w2 m2, (Builtin.copy_ #[33, 33] T #[sv, y]).run Tryd.prog w = .ok (.int .i64 xs.length) w2 ∧ Env w w2 ∧ Has w2 m2 ∧ Row m2 v 5 1 n ((wr bs pos xs).map byteV) ∧ Grows m m2 v v := by
  obtain ⟨va, vc, hv, hvc⟩ := hrow.lenV
  have hs1 : ∀ w', (sizeOf (Tryd.prog.elem 33)).run Tryd.prog w' = .ok 1 w' := fun w' => by kernel_rfl
  have hu : Tryd.prog.underlying 33 = some (.slice (Tryd.prog.elem 33)) := by kernel_rfl
  refine ⟨sliced va pos n vc 1, fun w' => ?_, fun w hm => ?_⟩
  · rw [hv, run_slice_l w' 33 va n vc hu .i64 pos (by omega) (by omega), hs1]
    simp [Result.andThen]
  · rcases Nat.eq_zero_or_pos xs.length with h0 | h0
    · have hx : xs = [] := List.eq_nil_of_length_eq_zero h0
      subst hx
      refine ⟨w, m, ?_, Env.refl w, hm, by rw [wr_nil]; exact hrow, .inl ⟨rfl, rfl⟩⟩
      have hyn : ∃ ya yc, y = .slice ya 0 yc := by
        rcases hy with ⟨_, _, h, _⟩ | ⟨_, _, _, h, _⟩
        · exact ⟨_, _, h⟩
        · exact ⟨_, _, h⟩
      obtain ⟨ya, yc, rfl⟩ := hyn
      have hsv : ∃ da dl dc, sliced va pos n vc 1 = .slice da dl dc := by
        cases va <;> simp [sliced, slicedAt]
      obtain ⟨da, dl, dc, hsv⟩ := hsv
      rw [hsv, run_copy_none w 33 33 T 5 da ya dl dc 0 yc Tryd.underlying33 sizeB1 (by simp)]
      rfl
    · have hrow' := hrow
      obtain ⟨hl, ⟨hn, hz⟩ | ⟨g, cap, cur, fz, hgv, hg, hth, hnc, hcm, hcs, htk⟩⟩ := hrow'
      · omega
      · rcases hy with ⟨_, _, _, hx⟩ | ⟨yg, yo, ycap, hyv, hyc, hcells⟩
        · subst hx; simp at h0
        · subst hyv
          subst hgv
          have hva : va = some ⟨g, 0, none⟩ ∧ vc = cap := by
            simp only [Value.slice.injEq] at hv
            exact ⟨hv.1.symm, hv.2.2.symm⟩
          obtain ⟨rfl, rfl⟩ := hva
          have hne : g ≠ yg := fun e => hsep h0 yg rfl (by rw [← e]; rfl)
          have hsv : sliced (some ⟨g, 0, none⟩) pos n vc 1 = .slice (some ⟨g, pos, none⟩) (n - pos) (vc - pos) := by
            simp only [sliced, slicedAt]
            rw [if_neg (by omega)]
            have : (⟨g, 0, none⟩ : Addr).add (pos * 1) = ⟨g, pos, none⟩ := by unfold Addr.add; split <;> simp_all
            rw [Option.map_some, this]
          rw [hsv]
          have hfit : pos + (xs.map byteV).length ≤ cur.size := by rw [List.length_map]; omega
          have hcopy := run_copy_cells (P := Tryd.prog) w 33 33 T 5 g pos (n - pos) (vc - pos) ⟨yg, yo, none⟩ xs.length ycap (xs.map byteV) Tryd.underlying33 sizeB1
            (by rw [List.length_map]; exact (Nat.min_eq_left (by omega)).symm) (hcells.at hm) (fun j hj => by rw [hm.cell hg]; simp at hj ⊢; omega)
            (fun j hj => by
              have := hth (pos + j) (by omega)
              simp only [World.frozen?, hm _ _ hg]; exact this)
            (fun u hu => by obtain ⟨_, _, rfl⟩ := List.mem_map.1 hu; rfl)
          refine ⟨_, _, by rw [hcopy, List.length_map]; rfl, Env.stores _ _ _ _ (Env.refl w), Has.stores (xs.map byteV) cur pos _ _ hm hg, ⟨by rw [List.length_map, wr_length (by omega)]; omega, .inr ⟨g, vc, _, fz, rfl, Mem.set_same _ _ _, hth.size (splice_size _ _ _), hnc, hcm, by rw [splice_size]; exact hcs, ?_⟩⟩, .inr ⟨g, _, rfl, rfl, .inl rfl⟩⟩
          apply List.ext_getElem?
          intro j
          rw [List.getElem?_take]
          have hcu : ∀ j, j < n → cur[j]? = (bs.map byteV)[j]? := fun j hj => by
            rw [← htk, List.getElem?_take, if_pos (by omega)]; simp
          by_cases hj : j < n * 1
          · rw [if_pos hj]
            have hs : (splice cur pos (xs.map byteV)).toList[j]? = (splice cur pos (xs.map byteV))[j]? := by simp
            rw [hs, splice_get _ _ _ _ hfit]
            have hw := wr_get (bs := bs) (xs := xs) (p := pos) (by omega) j
            simp only [List.length_map, List.getElem?_map, hw]
            by_cases h1 : pos ≤ j ∧ j < pos + xs.length
            · rw [if_pos h1, if_pos h1]
            · rw [if_neg h1, if_neg h1, hcu j (by omega), List.getElem?_map]
          · rw [if_neg hj, List.getElem?_eq_none]
            rw [List.length_map, wr_length (by omega)]; omega
end Go.Proofs.YtcdmdkgiabfbeaaDoor

/-
  all: two lists of files that are the same.
-/
import Derived.Test.YtcdmdkgiabfbeaaDoorFiles
namespace Go.Proofs.YtcdmdkgiabfbeaaDoor
open Go.RowKit

theorem file_cells {m : Mem} {v : Value} {fl : List File2} {w : World} (h : Row m v 29 2 fl.length (fl.flatMap fileCells)) (hm : Has w m) (hp : 0 < fl.length) : ∃ fb cap, v = .slice (some ⟨fb, 0, none⟩) fl.length cap ∧
    ∀ k (hk : k < fl.length), w.cell? ⟨fb, k * 2, none⟩ = some (.string fl[k].1) ∧ w.cell? ⟨fb, k * 2 + 1, none⟩ = some (.string fl[k].2) := by
  obtain ⟨_, ⟨_, h0⟩ | ⟨fb, cap, cur, fz, hv, hg, _, hn, hc, hcs, ht⟩⟩ := h
  · omega
  · refine ⟨fb, cap, hv, fun k hk => ?_⟩
    obtain ⟨g0, g1⟩ := fileCells_get fl k hk
    have key : ∀ j v, j < fl.length * 2 → (fl.flatMap fileCells)[j]? = some v → w.cell? ⟨fb, j, none⟩ = some v := fun j v hj hv => by
      rw [hm.cell hg, ← hv, ← ht, List.getElem?_take, if_pos hj]; simp
    exact ⟨key _ _ (by omega) g0, key _ _ (by omega) g1⟩

set_option maxHeartbeats 1000000 in
theorem all_same (v u : Value) (fl : List File2) (w : World) (m : Mem) (hm : Has w m) (h1 : Row m v 29 2 fl.length (fl.flatMap fileCells)) (h2 : Row m u 29 2 fl.length (fl.flatMap fileCells)) (hl : fl.length ≤ 1000000) :
    Calls Tryd.prog 16 #[v, u] w (Post w m fun v _ => v = .bool true) := by
  obtain ⟨va, vc, rfl, _⟩ := h1.lenV
  obtain ⟨ua, uc, rfl, _⟩ := h2.lenV
  have H := Lib.hid hm
  have H1 := Lib.hid h1
  have H2 := Lib.hid h2
  clear hm h1 h2
  go_enter Tryd.func16, Tryd.ntmps16
  go_wp2_with fail
  go_loopw [5] (fun i wr => ∃ k : Nat, k ≤ fl.length ∧ i = .int .i64 k ∧ Hid (Has wr m) ∧ Hid (Env w wr)) (fun i _ => fl.length - (intOf i).toNat)
  case atStart => exact ⟨0, Nat.zero_le _, rfl, H, Lib.hid (Env.refl _)⟩
  case round =>
    obtain ⟨k, hk, rfl, HW, HE⟩ := hrel
    by_cases hlt : k < fl.length
    · obtain ⟨fb, cap, hv, hc⟩ := file_cells H1.out HW.out (by omega)
      obtain ⟨gb, cap', hu, hd⟩ := file_cells H2.out HW.out (by omega)
      simp only [Value.slice.injEq] at hv hu
      obtain ⟨rfl, _, rfl⟩ := hv
      obtain ⟨rfl, _, rfl⟩ := hu
      obtain ⟨e0, e1⟩ := hc k hlt
      obtain ⟨g0, g1⟩ := hd k hlt
      obtain ⟨⟨nm, by'⟩, hfk⟩ : ∃ f, fl[k] = f := ⟨_, rfl⟩
      rw [hfk] at e0 e1 g0 g1
      simp only at e0 e1 g0 g1
      have flt : fb < wr.heap.size := by
        unfold World.cell? at e0
        cases ho : wr.heap[fb]? with
        | none => rw [ho] at e0; cases e0
        | some o => exact (Array.getElem?_eq_some_iff.1 ho).1
      have glt : gb < wr.heap.size := by
        unfold World.cell? at g0
        cases ho : wr.heap[gb]? with
        | none => rw [ho] at g0; cases g0
        | some o => exact (Array.getElem?_eq_some_iff.1 ho).1
      clear hc hd hfk
      go_wp2_with fail
      go_quiet (fail)
      go_wp2_with fail
      go_roundw
      case rel => exact ⟨k + 1, hlt, by go_num, Lib.hid (HW.out.drewN nq), Lib.hid (HE.out.drewN nq)⟩
      case measure => simp [intOf]; omega
    · go_wp2_with fail
      go_ret
      exact Post.mk m (Mem.le_refl _) HW.out HE.out rfl
end Go.Proofs.YtcdmdkgiabfbeaaDoor

/-
  A script as an argument, opened.
-/
import Derived.Test.YtcdmdkgiabfbeaaGreatDoorOpenArgs
import Derived.Test.YtcdmdkgiabfbeaaGreatDoorSteps
namespace Go.Proofs.YtcdmdkgiabfbeaaGreatDoor
open Go.ChangeShapes Go.WideShapes Go.RowKit

theorem os_step6 : Tryz.prog.cellsOf 28 = 6 := by kernel_rfl
theorem os_stepB : 0 < Tryz.prog.bytesOf 28 := of_decide_eq_true (by kernel_rfl)
theorem os_cellsI : Tryz.prog.cellsOf 3 = 1 := by kernel_rfl
theorem os_cellsS : Tryz.prog.cellsOf 9 = 1 := by kernel_rfl
theorem os_cellsB : Tryz.prog.cellsOf 26 = 1 := by kernel_rfl

theorem drop_one {α : Type} {l : List α} {k : Nat} {v : α} (h : (l.drop k).take 1 = [v]) : l[k]? = some v := by
  have := congrArg (·[0]?) h
  simpa [List.getElem?_take, List.getElem?_drop] using this

section
variable {H : Type} {enc : TypeId × Value → H} {W : World} {held : Bool}

/-- One step. -/
theorem open_step {fuel : Nat} {cs : List Value} {x : DataW H × List MemPlace} (h : DataW.trod enc Tryz.prog W 0 (fun _ => true) held fuel 28 cs = some x) :
    ∃ s : Stp, cs = stpCells s ∧ WindZ (memOf W) s.bv s.b ∧ ((∀ n ∈ x.1.weights Tryz.prog 28, n ≤ reachBytes) → s.name.size ≤ reachBytes ∧ s.to.size ≤ reachBytes ∧ s.b.length ≤ reachBytes) := by
  obtain ⟨xs, n, rfl, hx, hlen, hxl, hf⟩ := DataW.trod_struct Tryz.underlying28 h
  rw [os_step6] at hlen
  match xs, hxl with
  | [y0, y1, y2, y3, y4, y5], _ =>
    have g0 : DataW.trod enc Tryz.prog W 0 (fun _ => true) held n 3 ((cs.drop 0).take (Tryz.prog.cellsOf 3)) = some y0 := hf 0 _ rfl
    rw [os_cellsI] at g0
    have g1 : DataW.trod enc Tryz.prog W 0 (fun _ => true) held n 9 ((cs.drop 1).take (Tryz.prog.cellsOf 9)) = some y1 := hf 1 _ rfl
    rw [os_cellsS] at g1
    have g2 : DataW.trod enc Tryz.prog W 0 (fun _ => true) held n 9 ((cs.drop 2).take (Tryz.prog.cellsOf 9)) = some y2 := hf 2 _ rfl
    rw [os_cellsS] at g2
    have g3 : DataW.trod enc Tryz.prog W 0 (fun _ => true) held n 3 ((cs.drop 3).take (Tryz.prog.cellsOf 3)) = some y3 := hf 3 _ rfl
    rw [os_cellsI] at g3
    have g4 : DataW.trod enc Tryz.prog W 0 (fun _ => true) held n 3 ((cs.drop 4).take (Tryz.prog.cellsOf 3)) = some y4 := hf 4 _ rfl
    rw [os_cellsI] at g4
    have g5 : DataW.trod enc Tryz.prog W 0 (fun _ => true) held n 26 ((cs.drop 5).take (Tryz.prog.cellsOf 26)) = some y5 := hf 5 _ rfl
    rw [os_cellsB] at g5
    obtain ⟨k0, a0, _, _⟩ := DataW.trod_int Tryz.underlying3 g0
    obtain ⟨k1, a1, z1, _⟩ := DataW.trod_string Tryz.underlying9 g1
    obtain ⟨k2, a2, z2, _⟩ := DataW.trod_string Tryz.underlying9 g2
    obtain ⟨k3, a3, _, _⟩ := DataW.trod_int Tryz.underlying3 g3
    obtain ⟨k4, a4, _, _⟩ := DataW.trod_int Tryz.underlying3 g4
    obtain ⟨v5, bs, a5, w5, s5⟩ := open_bytes g5
    have b0 := drop_one a0
    have b1 := drop_one a1
    have b2 := drop_one a2
    have b3 := drop_one a3
    have b4 := drop_one a4
    have b5 := drop_one a5
    have hcs : cs = stpCells ⟨k0, k1, k2, k3, k4, v5, bs⟩ := by
      apply List.ext_getElem?
      intro j
      match j with
      | 0 => exact b0
      | 1 => exact b1
      | 2 => exact b2
      | 3 => exact b3
      | 4 => exact b4
      | 5 => exact b5
      | j + 6 => rw [List.getElem?_eq_none (by omega), List.getElem?_eq_none (by simp [stpCells])]
    refine ⟨⟨k0, k1, k2, k3, k4, v5, bs⟩, hcs, w5, fun hw => ?_⟩
    have hagg : x.1.weights Tryz.prog 28 = DataW.weightsEach Tryz.prog [3, 9, 9, 3, 3, 26] [y0.1, y1.1, y2.1, y3.1, y4.1, y5.1] := by
      rw [hx]
      simp only [DataW.weights, Tryz.underlying28]
      rfl
    rw [hagg] at hw
    refine ⟨?_, ?_, s5 fun n hn => hw n (DataW.weights_mem_each (j := 5) rfl rfl n hn)⟩
    · have := hw k1.data.toList.length (DataW.weights_mem_each (j := 1) (t := 9) (d := y1.1) rfl rfl _ (by rw [z1]; simp [DataW.weights]))
      rwa [Array.length_toList] at this
    · have := hw k2.data.toList.length (DataW.weights_mem_each (j := 2) (t := 9) (d := y2.1) rfl rfl _ (by rw [z2]; simp [DataW.weights]))
      rwa [Array.length_toList] at this

theorem flatMap_len6 (sl : List Stp) : (sl.flatMap stpCells).length = sl.length * 6 := by
  induction sl with
  | nil => rfl
  | cons s l ih => rw [List.flatMap_cons, List.length_append, ih, List.length_cons]; simp [stpCells]; omega

/-- A script. -/
theorem open_steps {fuel : Nat} {cs : List Value} {x : DataW H × List MemPlace} (h : DataW.trod enc Tryz.prog W 0 (fun _ => true) held fuel 22 cs = some x)
    (hw : ∀ n ∈ x.1.weights Tryz.prog 22, n ≤ reachBytes) : ∃ v sl, cs = [v] ∧ StepsK (memOf W) v sl := by
  have hR : reachBytes ≤ 140737488355328 := by decide
  rcases Go.Deep.open_slice Tryz.underlying22 h with ⟨hcs, _⟩ | ⟨a, len, cap, m, n, D, Pl, hcs, _, hl, _, hm, hx, hel⟩
  · exact ⟨_, [], hcs, .inl ⟨rfl, rfl⟩, by simp, by simp, by simp⟩
  · simp only [if_true] at hm
    rw [hx] at hw
    simp only [DataW.weights, Tryz.underlying22] at hw
    have hlenR : len ≤ reachBytes := by
      have h1 := hw _ (List.mem_cons_self ..)
      simp only [List.length_map, List.length_range] at h1
      have h2 := os_stepB
      have h3 : len + (m - len) ≤ (len + (m - len)) * Tryz.prog.bytesOf 28 := Nat.le_mul_of_pos_right _ h2
      omega
    have each : ∀ i, i < len → ∃ s : Stp, W.cells? 0 (a.add (i * 6)) 6 = some (stpCells s) ∧ WindZ (memOf W) s.bv s.b ∧ s.name.size ≤ reachBytes ∧ s.to.size ≤ reachBytes ∧ s.b.length ≤ reachBytes := fun i hi => by
      obtain ⟨cs', h1, h2⟩ := hel i (by omega)
      rw [os_step6] at h1
      obtain ⟨s, rfl, h3, h4⟩ := open_step h2
      exact ⟨s, h1, h3, h4 fun n hn => hw n (List.mem_cons_of_mem _ (List.mem_append_left _ (weights_all (d := D i) (List.mem_map.2 ⟨i, List.mem_range.2 hi, rfl⟩) n hn)))⟩
    have inh : Inhabited Stp := ⟨⟨0, ⟨#[]⟩, ⟨#[]⟩, 0, 0, .slice none 0 0, []⟩⟩
    obtain ⟨f, hf⟩ := Go.Deep.choose_lt each
    have hll : ((List.range len).map f).length = len := by simp
    refine ⟨_, (List.range len).map f, hcs, ?_, by rw [hll]; omega, fun s hs => ?_, fun s hs => ?_⟩
    · rw [hll]
      refine .inr ⟨a, cap, rfl, fun hp => ?_⟩
      refine cells_memOf (fun j u hj => ?_) (by rw [flatMap_len6, hll]; omega)
      have hjl : j < len * 6 := by
        have := (List.getElem?_eq_some_iff.1 hj).1
        rwa [flatMap_len6, hll] at this
      have hd : j / 6 < len := by omega
      have hg := stpCells_get ((List.range len).map f) (j / 6) (by rw [hll]; exact hd) (j % 6) (Nat.mod_lt _ (by decide))
      rw [show j / 6 * 6 + j % 6 = j from by omega, hj] at hg
      obtain ⟨_, _, hc⟩ := World.cells?_some (hf _ hd).1
      have := hc (j % 6) (by omega)
      rw [Go.Deep.add_add, show j / 6 * 6 + j % 6 = j from by omega] at this
      rw [this, hg]
      simp
    · obtain ⟨i, hi, rfl⟩ := List.mem_map.1 hs
      exact (hf i (List.mem_range.1 hi)).2.1
    · obtain ⟨i, hi, rfl⟩ := List.mem_map.1 hs
      have := (hf i (List.mem_range.1 hi)).2.2
      omega
end
end Go.Proofs.YtcdmdkgiabfbeaaGreatDoor

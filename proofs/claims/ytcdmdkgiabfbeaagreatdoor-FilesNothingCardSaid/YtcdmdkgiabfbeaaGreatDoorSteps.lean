/-
  A script of steps in memory; much. (printed by steps_gen.py)
-/
import Derived.Test.YtcdmdkgiabfbeaaGreatDoorAwake
namespace Go.Proofs.YtcdmdkgiabfbeaaGreatDoor
open Go.RowKit

structure Stp where
  kind : Int
  name : ByteArray
  to : ByteArray
  id : Int
  n : Int
  bv : Value
  b : List UInt8

def stpCells (s : Stp) : List Value := [.int .i64 s.kind, .string s.name, .string s.to, .int .i64 s.id, .int .i64 s.n, s.bv]
theorem stpCells_get : ∀ (l : List Stp) (k : Nat) (h : k < l.length) (j : Nat), j < 6 → (l.flatMap stpCells)[k * 6 + j]? = (stpCells l[k])[j]?
  | [], k, h, _, _ => absurd h (Nat.not_lt_zero k)
  | s :: l, 0, _, j, hj => by
    simp only [List.flatMap_cons, Nat.zero_mul, Nat.zero_add]
    rw [List.getElem?_append_left (by simpa [stpCells] using hj)]; rfl
  | s :: l, k + 1, h, j, hj => by
    have ih := stpCells_get l k (by simpa using h) j hj
    simp only [List.flatMap_cons]
    rw [List.getElem?_append_right (by simp [stpCells]; omega)]
    rw [show (k + 1) * 6 + j - (stpCells s).length = k * 6 + j from by simp [stpCells]; omega]
    exact ih

/-- A script, somewhere in a block. -/
structure StepsK (m : Mem) (v : Value) (sl : List Stp) : Prop where
  win : WindK m v sl.length (sl.flatMap stpCells)
  len : sl.length ≤ 140737488355328
  wind : ∀ s ∈ sl, WindZ m s.bv s.b
  size : ∀ s ∈ sl, s.name.size ≤ 140737488355328 ∧ s.to.size ≤ 140737488355328 ∧ s.b.length ≤ 140737488355328

theorem StepsK.le {m m' : Mem} {v : Value} {sl : List Stp} (h : StepsK m v sl) (l : m.le m') : StepsK m' v sl := ⟨h.win.le l, h.len, fun s hs => (h.wind s hs).le l, h.size⟩

/-- A step's cells. -/
theorem StepsK.at {m : Mem} {g o : Nat} {sl : List Stp} (h : Cells m g o (sl.flatMap stpCells)) {w : World} (hm : Has w m) {k : Nat} (hk : k < sl.length) :
    w.cell? ⟨g, o + k * 6, none⟩ = some (.int .i64 sl[k].kind) ∧ w.cell? ⟨g, o + k * 6 + 1, none⟩ = some (.string sl[k].name) ∧ w.cell? ⟨g, o + k * 6 + 2, none⟩ = some (.string sl[k].to) ∧
      w.cell? ⟨g, o + k * 6 + 3, none⟩ = some (.int .i64 sl[k].id) ∧ w.cell? ⟨g, o + k * 6 + 4, none⟩ = some (.int .i64 sl[k].n) ∧ w.cell? ⟨g, o + k * 6 + 5, none⟩ = some sl[k].bv := by
  have hadd : ∀ j, (⟨g, o, none⟩ : Addr).add j = ⟨g, o + j, none⟩ := fun j => by unfold Addr.add; split <;> simp_all
  have hcw := h.at hm
  have key : ∀ j v, j < 6 → (stpCells sl[k])[j]? = some v → w.cell? ⟨g, o + k * 6 + j, none⟩ = some v := fun j v hj hv => by
    have := hcw (k * 6 + j) v (by rw [stpCells_get _ _ hk _ hj]; exact hv)
    rw [hadd, ← Nat.add_assoc] at this
    exact this
  exact ⟨key 0 _ (by decide) rfl, key 1 _ (by decide) rfl, key 2 _ (by decide) rfl, key 3 _ (by decide) rfl, key 4 _ (by decide) rfl, key 5 _ (by decide) rfl⟩

def stpN (s : Stp) : Nat := s.b.length + s.name.size + s.to.size
def fileN (f : File2) : Nat := f.1.size + f.2.size

theorem wrap_small {x : Int} (h0 : 0 ≤ x) (h1 : x ≤ 2251799813685248) : IntKind.i64.wrap x = x := by
  simp [IntKind.wrap, IntKind.signed, IntKind.bits]; omega

def MuchR (fl : List File2) (nx : Nat) (sl : List Stp) (v : Value) (_ : Mem) : Prop :=
  ∃ t : Bool, v = .bool t ∧ (t = false → sl.length ≤ 200 ∧ fl.length ≤ 6000 ∧ nx ≤ 6000 ∧ (∀ f ∈ fl, fileN f ≤ 6000) ∧ ∀ s ∈ sl, stpN s ≤ 6000)

theorem mem_take_succ {α : Type} {P : α → Prop} {l : List α} {k : Nat} (hk : k < l.length) (h : ∀ x ∈ l.take k, P x) (h1 : P l[k]) : ∀ x ∈ l.take (k + 1), P x := by
  intro x hx
  rw [List.take_succ_eq_append_getElem hk] at hx
  rcases List.mem_append.1 hx with hx | hx
  · exact h x hx
  · rw [List.mem_singleton.1 hx]; exact h1

set_option maxHeartbeats 4000000 in
set_option maxRecDepth 100000 in
theorem much_any (fv : Value) (fl : List File2) (xa : Option Addr) (nx xc : Nat) (lv : Value) (sl : List Stp) (w : World) (m : Mem) (hm : Has w m) (hf : Files2 m fv fl) (hfl : fl.length ≤ 140737488355328) (hnx : nx ≤ 140737488355328)
    (hfs : ∀ f ∈ fl, f.1.size ≤ 140737488355328 ∧ f.2.size ≤ 140737488355328) (hs : StepsK m lv sl) :
    Calls Tryz.prog 6 #[fv, .slice xa nx xc, lv] w (Post w m (MuchR fl nx sl)) := by
  obtain ⟨fa, fc, rfl⟩ := hf.shape
  obtain ⟨la, lc, rfl⟩ := hs.win.shape
  have hsl := hs.len
  have wk0 : IntKind.i64.wrap ((fl.length : Int) + (nx : Int)) = (fl.length : Int) + nx := wrap_small (by omega) (by omega)
  have wk1 : IntKind.i64.wrap ((fl.length : Int) + (nx : Int) + (sl.length : Int)) = (fl.length : Int) + nx + sl.length := wrap_small (by omega) (by omega)
  have H := Lib.hid hm
  have HF := Lib.hid hf
  have HFS := Lib.hid hfs
  have HS := Lib.hid hs
  clear hm hf hs hfs
  go_enter Tryz.func6, Tryz.ntmps6
  go_wp2_with fail
  go_loopw [7, 8] (fun n i wr => ∃ (N k : Nat), k ≤ fl.length ∧ n = .int .i64 N ∧ i = .int .i64 k ∧ fl.length + nx + sl.length ≤ N ∧ N ≤ 1125899906842624 ∧ Hid (Has wr m) ∧ Hid (Env w wr) ∧ Hid (N ≤ 6000 → ∀ f ∈ fl.take k, fileN f ≤ 6000)) (fun _ i _ => fl.length - (intOf i).toNat)
  case atStart => exact ⟨fl.length + nx + sl.length, 0, Nat.zero_le _, by go_num, rfl, Nat.le_refl _, by omega, H, Lib.hid (Env.refl w), Lib.hid (fun _ f hf => by simp at hf)⟩
  case round =>
    obtain ⟨N, k, hk, rfl, rfl, hN, hNb, HW, HE, HA⟩ := hrel
    by_cases h6 : (N : Int) ≤ 6000
    · by_cases hlt : k < fl.length
      · obtain ⟨fb, fo, cap, hfa, hc⟩ := WindK.cells HF.out (by omega)
        simp only [Value.slice.injEq] at hfa
        obtain ⟨rfl, _, rfl⟩ := hfa
        obtain ⟨g0, g1'⟩ := fileCells_get fl k hlt
        have hcw := hc.at HW.out
        have e0 := hcw _ _ g0
        have e1 := hcw _ _ g1'
        have hadd : ∀ j, (⟨fb, fo, none⟩ : Addr).add j = ⟨fb, fo + j, none⟩ := fun j => by unfold Addr.add; split <;> simp_all
        rw [hadd] at e0 e1
        rw [← Nat.add_assoc] at e1
        have flt : fb < wr.heap.size := by
          obtain ⟨c, e, fz, h1, _⟩ := hc
          exact HW.out.lt h1
        obtain ⟨z0, z1⟩ := HFS.out _ (List.getElem_mem hlt)
        obtain ⟨⟨nm, by'⟩, hfk⟩ : ∃ f, f = fl[k] := ⟨_, rfl⟩
        rw [← hfk] at e0 e1 z0 z1
        simp only at z0 z1
        have HFK := Lib.hid hfk
        have wk2 : IntKind.i64.wrap ((N : Int) + (nm.size : Int)) = (N : Int) + nm.size := wrap_small (by omega) (by omega)
        have wk3 : IntKind.i64.wrap ((N : Int) + (nm.size : Int) + (by'.size : Int)) = (N : Int) + nm.size + by'.size := wrap_small (by omega) (by omega)
        clear hfk g0 g1' hcw hc hadd
        go_wp2_with fail
        go_quiet (fail)
        go_wp2_with fail
        go_roundw
        case rel =>
          refine ⟨N + nm.size + by'.size, k + 1, hlt, by go_num, by go_num, by omega, by omega, Lib.hid (HW.out.drewN nq), Lib.hid (HE.out.drewN nq), Lib.hid (fun h => mem_take_succ hlt (HA.out (by omega)) ?_)⟩
          rw [← HFK.out]
          show nm.size + by'.size ≤ 6000
          omega
        case measure => simp [intOf]; omega
      · have HB : Hid (N ≤ 6000 → ∀ f ∈ fl, fileN f ≤ 6000) := Lib.hid (fun h => by have := HA.out h; rwa [List.take_of_length_le (by omega)] at this)
        clear HA
        go_wp2_with fail
        go_loopw [7, 9] (fun n i wr => ∃ (N k : Nat), k ≤ sl.length ∧ n = .int .i64 N ∧ i = .int .i64 k ∧ fl.length + nx + sl.length ≤ N ∧ N ≤ 1125899906842624 ∧ Hid (Has wr m) ∧ Hid (Env w wr) ∧ Hid (N ≤ 6000 → (∀ f ∈ fl, fileN f ≤ 6000) ∧ ∀ s ∈ sl.take k, stpN s ≤ 6000)) (fun _ i _ => sl.length - (intOf i).toNat)
        case atStart => exact ⟨N, 0, Nat.zero_le _, rfl, rfl, hN, hNb, HW, HE, Lib.hid (fun h => ⟨HB.out h, fun s hs => by simp at hs⟩)⟩
        case round =>
          clear HB HW HE hN hNb
          obtain ⟨N, k, hk, rfl, rfl, hN, hNb, HW, HE, HA⟩ := hrel
          by_cases h6 : (N : Int) ≤ 6000
          · by_cases hlt : k < sl.length
            · obtain ⟨gb, go, cap, hla, hc⟩ := WindK.cells HS.out.win (by omega)
              simp only [Value.slice.injEq] at hla
              obtain ⟨rfl, _, rfl⟩ := hla
              obtain ⟨_, e1, e2, _, _, e5⟩ := StepsK.at hc HW.out hlt
              have glt : gb < wr.heap.size := by
                obtain ⟨c, e, fz, h1, _⟩ := hc
                exact HW.out.lt h1
              obtain ⟨z0, z1, z2⟩ := HS.out.size _ (List.getElem_mem hlt)
              have zw := HS.out.wind _ (List.getElem_mem hlt)
              obtain ⟨⟨kd, nm, to', sid, sn, bv, bs⟩, hsk⟩ : ∃ f, f = sl[k] := ⟨_, rfl⟩
              rw [← hsk] at e1 e2 e5 z0 z1 z2 zw
              simp only at e1 e2 e5 z0 z1 z2 zw
              obtain ⟨ya, yc, rfl⟩ := zw.shape
              have HFK := Lib.hid hsk
              have wk2 : IntKind.i64.wrap ((N : Int) + (bs.length : Int)) = (N : Int) + bs.length := wrap_small (by omega) (by omega)
              have wk3 : IntKind.i64.wrap ((N : Int) + (bs.length : Int) + (nm.size : Int)) = (N : Int) + bs.length + nm.size := wrap_small (by omega) (by omega)
              have wk4 : IntKind.i64.wrap ((N : Int) + (bs.length : Int) + (nm.size : Int) + (to'.size : Int)) = (N : Int) + bs.length + nm.size + to'.size := wrap_small (by omega) (by omega)
              clear hsk hc zw
              go_wp2_with fail
              go_quiet (fail)
              go_wp2_with fail
              go_roundw
              case rel =>
                refine ⟨N + bs.length + nm.size + to'.size, k + 1, hlt, by go_num, by go_num, by omega, by omega, Lib.hid (HW.out.drewN nq), Lib.hid (HE.out.drewN nq), Lib.hid (fun h => ⟨(HA.out (by omega)).1, mem_take_succ hlt (HA.out (by omega)).2 ?_⟩)⟩
                rw [← HFK.out]
                show bs.length + nm.size + to'.size ≤ 6000
                omega
              case measure => simp [intOf]; omega
            · have h7 : ¬ (6000 < (N : Int)) := by omega
              by_cases h2 : 200 < (sl.length : Int)
              · go_wp2_with fail
                go_ret
                exact Post.mk m (Mem.le_refl _) HW.out HE.out ⟨true, rfl, fun h => by cases h⟩
              · go_wp2_with fail
                go_ret
                refine Post.mk m (Mem.le_refl _) HW.out HE.out ⟨false, rfl, fun _ => ?_⟩
                have h := HA.out (by omega)
                rw [List.take_of_length_le (by omega)] at h
                exact ⟨by omega, by omega, by omega, h.1, h.2⟩
          · have h7 : 6000 < (N : Int) := by omega
            by_cases hlt : k < sl.length
            all_goals
              go_wp2_with fail
              go_ret
              exact Post.mk m (Mem.le_refl _) HW.out HE.out ⟨true, rfl, fun h => by cases h⟩
    · have HB : Hid (N ≤ 6000 → ∀ f ∈ fl, fileN f ≤ 6000) := Lib.hid (fun h => by omega)
      clear HA
      by_cases hlt : k < fl.length
      all_goals
        go_wp2_with fail
        go_loopw [7, 9] (fun n i wr => ∃ (N k : Nat), k ≤ sl.length ∧ n = .int .i64 N ∧ i = .int .i64 k ∧ fl.length + nx + sl.length ≤ N ∧ N ≤ 1125899906842624 ∧ Hid (Has wr m) ∧ Hid (Env w wr) ∧ Hid (N ≤ 6000 → (∀ f ∈ fl, fileN f ≤ 6000) ∧ ∀ s ∈ sl.take k, stpN s ≤ 6000)) (fun _ i _ => sl.length - (intOf i).toNat)
        case atStart => exact ⟨N, 0, Nat.zero_le _, rfl, rfl, hN, hNb, HW, HE, Lib.hid (fun h => ⟨HB.out h, fun s hs => by simp at hs⟩)⟩
        case round =>
          clear HB HW HE hN hNb
          obtain ⟨N, k, hk, rfl, rfl, hN, hNb, HW, HE, HA⟩ := hrel
          by_cases h6 : (N : Int) ≤ 6000
          · by_cases hlt : k < sl.length
            · obtain ⟨gb, go, cap, hla, hc⟩ := WindK.cells HS.out.win (by omega)
              simp only [Value.slice.injEq] at hla
              obtain ⟨rfl, _, rfl⟩ := hla
              obtain ⟨_, e1, e2, _, _, e5⟩ := StepsK.at hc HW.out hlt
              have glt : gb < wr.heap.size := by
                obtain ⟨c, e, fz, h1, _⟩ := hc
                exact HW.out.lt h1
              obtain ⟨z0, z1, z2⟩ := HS.out.size _ (List.getElem_mem hlt)
              have zw := HS.out.wind _ (List.getElem_mem hlt)
              obtain ⟨⟨kd, nm, to', sid, sn, bv, bs⟩, hsk⟩ : ∃ f, f = sl[k] := ⟨_, rfl⟩
              rw [← hsk] at e1 e2 e5 z0 z1 z2 zw
              simp only at e1 e2 e5 z0 z1 z2 zw
              obtain ⟨ya, yc, rfl⟩ := zw.shape
              have HFK := Lib.hid hsk
              have wk2 : IntKind.i64.wrap ((N : Int) + (bs.length : Int)) = (N : Int) + bs.length := wrap_small (by omega) (by omega)
              have wk3 : IntKind.i64.wrap ((N : Int) + (bs.length : Int) + (nm.size : Int)) = (N : Int) + bs.length + nm.size := wrap_small (by omega) (by omega)
              have wk4 : IntKind.i64.wrap ((N : Int) + (bs.length : Int) + (nm.size : Int) + (to'.size : Int)) = (N : Int) + bs.length + nm.size + to'.size := wrap_small (by omega) (by omega)
              clear hsk hc zw
              go_wp2_with fail
              go_quiet (fail)
              go_wp2_with fail
              go_roundw
              case rel =>
                refine ⟨N + bs.length + nm.size + to'.size, k + 1, hlt, by go_num, by go_num, by omega, by omega, Lib.hid (HW.out.drewN nq), Lib.hid (HE.out.drewN nq), Lib.hid (fun h => ⟨(HA.out (by omega)).1, mem_take_succ hlt (HA.out (by omega)).2 ?_⟩)⟩
                rw [← HFK.out]
                show bs.length + nm.size + to'.size ≤ 6000
                omega
              case measure => simp [intOf]; omega
            · have h7 : ¬ (6000 < (N : Int)) := by omega
              by_cases h2 : 200 < (sl.length : Int)
              · go_wp2_with fail
                go_ret
                exact Post.mk m (Mem.le_refl _) HW.out HE.out ⟨true, rfl, fun h => by cases h⟩
              · go_wp2_with fail
                go_ret
                refine Post.mk m (Mem.le_refl _) HW.out HE.out ⟨false, rfl, fun _ => ?_⟩
                have h := HA.out (by omega)
                rw [List.take_of_length_le (by omega)] at h
                exact ⟨by omega, by omega, by omega, h.1, h.2⟩
          · have h7 : 6000 < (N : Int) := by omega
            by_cases hlt : k < sl.length
            all_goals
              go_wp2_with fail
              go_ret
              exact Post.mk m (Mem.le_refl _) HW.out HE.out ⟨true, rfl, fun h => by cases h⟩
end Go.Proofs.YtcdmdkgiabfbeaaGreatDoor

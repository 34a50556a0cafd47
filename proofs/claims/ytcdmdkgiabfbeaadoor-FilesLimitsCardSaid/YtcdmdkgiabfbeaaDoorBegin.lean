/-
  begin: counts an operation; its failure.
-/
import Derived.Test.YtcdmdkgiabfbeaaDoorBase
import Derived.Test.YtcdmdkgiabfbeaaDoorSlices
import Derived.Deep.RegionHeld3
namespace Go.Proofs.YtcdmdkgiabfbeaaDoor
open Go.RowKit

abbrev Fail3 := Int × Int × Int
def failCells (f : Fail3) : List Value := [.int .i64 f.1, .int .i64 f.2.1, .int .i64 f.2.2]
def failV (f : Fail3) : Value := .agg #[.int .i64 f.1, .int .i64 f.2.1, .int .i64 f.2.2]
def failAt (l : List Fail3) (n : Int) : Fail3 := (l.find? fun f => decide (f.1 = n)).getD (0, 0, 0)
def Fails (m : Mem) (v : Value) (l : List Fail3) : Prop := Row m v 54 3 l.length (l.flatMap failCells)

theorem failCells_get : ∀ (l : List Fail3) (k : Nat) (h : k < l.length), (l.flatMap failCells)[k * 3]? = some (.int .i64 l[k].1) ∧ (l.flatMap failCells)[k * 3 + 1]? = some (.int .i64 l[k].2.1) ∧ (l.flatMap failCells)[k * 3 + 2]? = some (.int .i64 l[k].2.2)
  | f :: l, 0, _ => by simp [failCells]
  | f :: l, k + 1, h => by
    have := failCells_get l k (by simpa using h)
    simp only [List.flatMap_cons, failCells, Nat.add_mul, Nat.one_mul]
    simpa [failCells] using this

theorem failAt_none {l : List Fail3} {n : Int} (h : ∀ f ∈ l, f.1 ≠ n) : failAt l n = (0, 0, 0) := by
  unfold failAt
  rw [List.find?_eq_none.2 (by simpa using h)]; rfl
theorem failAt_some {l : List Fail3} {n : Int} (k : Nat) (h : k < l.length) (hk : l[k].1 = n) (hno : ∀ j (hj : j < k), (l[j]'(by omega)).1 ≠ n) : failAt l n = l[k] := by
  unfold failAt
  have : l.find? (fun f => decide (f.1 = n)) = some l[k] := by
    rw [List.find?_eq_some_iff_getElem]
    exact ⟨by simpa using hk, k, h, rfl, fun j hj => by simpa using hno j hj⟩
  rw [this]; rfl

set_option maxHeartbeats 1000000 in
theorem begin_any (sb : Nat) (mv fv ov : Value) (n : Int) (l : List Fail3) (w : World) (m : Mem) (hm : Has w m)
    (hs : m sb = some (.cells #[mv, fv, ov, .int .i64 n] 57 (0, 0))) (hf : Fails m fv l) (hl : l.length ≤ 1000) (h0 : 0 ≤ n) (h1 : n ≤ 1000000) :
    Calls Tryd.prog 21 #[.pointer (some ⟨sb, 0, none⟩)] w
      (Post w (m.set sb (.cells #[mv, fv, ov, .int .i64 (n + 1)] 57 (0, 0))) fun v m' => ∃ ev, v = .tuple #[failV (failAt l (n + 1)), ev] ∧ ErrIs m' ev (failAt l (n + 1)).2.1) := by
  obtain ⟨fa, fc, rfl, hfc⟩ := hf.lenV
  have c1 : w.cell? ⟨sb, 1, none⟩ = some (.slice fa l.length fc) := by rw [hm.cell hs]; rfl
  have c3 : w.cell? ⟨sb, 3, none⟩ = some (.int .i64 n) := by rw [hm.cell hs]; rfl
  have f3 : w.frozen? ⟨sb, 3, none⟩ = false := hm.froz hs
  have hlt := hm.lt hs
  have hne : sb ≠ w.heap.size := by omega
  have H := Lib.hid hm
  have HS := Lib.hid hs
  have HF := Lib.hid hf
  clear hm hs hf
  go_enter Tryd.func21, Tryd.ntmps21
  go_wp2_with fail
  refine wp_opaque w _ ((H.out.storeTo (off := 3) (c' := #[mv, .slice fa l.length fc, ov, .int .i64 (n + 1)]) HS.out (.int .i64 (n + 1)) (by simp)).alloc (.cells #[.int .i64 0, .int .i64 0, .int .i64 0] 54)) (((Env.refl w).setCell _ _).alloc _) ?_
  intro w1 h1m h1e
  have hmid : (m.set sb (.cells #[mv, .slice fa l.length fc, ov, .int .i64 (n + 1)] 57 (0, 0))) w.heap.size = none := by
    rw [Mem.set_ne _ _ (Ne.symm hne)]; exact H.out.fresh (Nat.le_refl _)
  rw [World.size_setCell] at h1m
  have HM1 : Hid (Has w1 ((m.set sb (.cells #[mv, .slice fa l.length fc, ov, .int .i64 (n + 1)] 57 (0, 0))).set w.heap.size (.cells #[.int .i64 0, .int .i64 0, .int .i64 0] 54 (0, 0)))) := h1m
  have HE1 := Lib.hid h1e
  have HMID := Lib.hid hmid
  clear h1m h1e hmid c1 c3 f3
  generalize w.heap.size = r0 at *
  have hrs : ∀ wr, Has wr ((m.set sb (.cells #[mv, .slice fa l.length fc, ov, .int .i64 (n + 1)] 57 (0, 0))).set r0 (.cells #[.int .i64 0, .int .i64 0, .int .i64 0] 54 (0, 0))) →
     wr.cell? ⟨sb, 3, none⟩ = some (.int .i64 (n + 1)) ∧ sb < wr.heap.size ∧ r0 < wr.heap.size := fun wr h => by
    have k : ((m.set sb (.cells #[mv, .slice fa l.length fc, ov, .int .i64 (n + 1)] 57 (0, 0))).set r0 (.cells #[.int .i64 0, .int .i64 0, .int .i64 0] 54 (0, 0))) sb = some (.cells #[mv, .slice fa l.length fc, ov, .int .i64 (n + 1)] 57 (0, 0)) := by
      rw [Mem.set_ne _ _ hne, Mem.set_same]
    exact ⟨by rw [h.cell k]; rfl, h.lt k, h.lt (Mem.set_same _ _ _)⟩
  have HRS := Lib.hid hrs
  clear hrs
  go_loopw [18] (fun i wr => ∃ k : Nat, k ≤ l.length ∧ i = .int .i64 k ∧ Hid (Has wr ((m.set sb (.cells #[mv, .slice fa l.length fc, ov, .int .i64 (n + 1)] 57 (0, 0))).set r0 (.cells #[.int .i64 0, .int .i64 0, .int .i64 0] 54 (0, 0)))) ∧ Hid (Env w wr) ∧ Hid (∀ j (hj : j < l.length), j < k → l[j].1 ≠ n + 1)) (fun i _ => l.length - (intOf i).toNat)
  case atStart => exact ⟨0, Nat.zero_le _, rfl, HM1, HE1, fun j _ hj => by omega⟩
  case round =>
    obtain ⟨k, hk, rfl, HR, HE, HN⟩ := hrel
    obtain ⟨d3, d1, d2⟩ := HRS.out wr HR.out
    by_cases hlt : k < l.length
    · obtain ⟨fb, cap, cur, fz, hv, hg, _, _, _, _, ht⟩ : ∃ fb cap cur fz, Value.slice fa l.length fc = .slice (some ⟨fb, 0, none⟩) l.length cap ∧ m fb = some (.cells cur 54 fz) ∧ Thaw cur fz ∧ l.length ≤ cap ∧ cap ≤ maxLen ∧ cap * 3 ≤ cur.size ∧ cur.toList.take (l.length * 3) = l.flatMap failCells := by
        rcases HF.out.2 with ⟨_, h⟩ | h
        · omega
        · exact h
      obtain ⟨g0, g1, g2⟩ := failCells_get l k hlt
      have r1 : m r0 = none := by have := HMID.out; rwa [Mem.set_ne _ _ (Ne.symm hne)] at this
      have n1 : fb ≠ sb := by intro e; subst e; have := HS.out; rw [hg] at this; simp at this
      have n2 : fb ≠ r0 := by intro e; subst e; rw [r1] at hg; cases hg
      have hk' : ((m.set sb (.cells #[mv, .slice fa l.length fc, ov, .int .i64 (n + 1)] 57 (0, 0))).set r0 (.cells #[.int .i64 0, .int .i64 0, .int .i64 0] 54 (0, 0))) fb = some (.cells cur 54 fz) := by
        rw [Mem.set_ne _ _ n2, Mem.set_ne _ _ n1]; exact hg
      have hcell : ∀ j v, j < l.length * 3 → (l.flatMap failCells)[j]? = some v → wr.cell? ⟨fb, j, none⟩ = some v := fun j v hj h => by
        rw [HR.out.cell hk', ← h, ← ht, List.getElem?_take, if_pos hj]; simp
      have e0 := hcell _ _ (by omega) g0
      have e1 := hcell _ _ (by omega) g1
      have e2 := hcell _ _ (by omega) g2
      have flt : fb < wr.heap.size := HR.out.lt hk'
      obtain ⟨⟨x, y, z⟩, hf⟩ : ∃ f, f = l[k] := ⟨_, rfl⟩
      rw [← hf] at e0 e1 e2
      simp only [Value.slice.injEq] at hv
      obtain ⟨rfl, _, rfl⟩ := hv
      have HFK := Lib.hid hf
      have R1 := Lib.hid r1
      have N1 := Lib.hid n1
      clear hf r1 hg ht hcell g0 g1 g2 hk' n1 n2
      go_wp2_with fail
      have hfr : ((m.set sb (.cells #[mv, .slice (some ⟨fb, 0, none⟩) l.length fc, ov, .int .i64 (n + 1)] 57 (0, 0))).set r0 (.cells #[.int .i64 0, .int .i64 0, .int .i64 0] 54 (0, 0))) wr.heap.size = none := HR.out.fresh (Nat.le_refl _)
      refine wp_opaque w _ (HR.out.alloc (.cells #[.int .i64 x, .int .i64 y, .int .i64 z] 54)) (HE.out.alloc _) ?_
      intro w2 h2m h2e
      have q0 : w2.cell? ⟨wr.heap.size, 0, none⟩ = some (.int .i64 x) := by rw [h2m.cell (Mem.set_same _ _ _)]; rfl
      have q1 : w2.cell? ⟨wr.heap.size, 1, none⟩ = some (.int .i64 y) := by rw [h2m.cell (Mem.set_same _ _ _)]; rfl
      have q2 : w2.cell? ⟨wr.heap.size, 2, none⟩ = some (.int .i64 z) := by rw [h2m.cell (Mem.set_same _ _ _)]; rfl
      have H2 := Lib.hid h2m
      have H2E := Lib.hid h2e
      have HFR := Lib.hid hfr
      obtain ⟨q3, q4, q5⟩ := HRS.out w2 (h2m.le (Mem.le_set _ _ hfr))
      have n3 : r0 ≠ wr.heap.size := by omega
      have n4 : wr.heap.size ≠ r0 := by omega
      clear h2m h2e hfr d1 d2 d3 flt e0 e1 e2
      generalize wr.heap.size = rb at *
      have HR0 : Hid ((((m.set sb (.cells #[mv, .slice (some ⟨fb, 0, none⟩) l.length fc, ov, .int .i64 (n + 1)] 57 (0, 0))).set r0 (.cells #[.int .i64 0, .int .i64 0, .int .i64 0] 54 (0, 0))).set rb (.cells #[.int .i64 x, .int .i64 y, .int .i64 z] 54 (0, 0))) r0 = some (.cells #[.int .i64 0, .int .i64 0, .int .i64 0] 54 (0, 0))) := by
        show _ = _
        rw [Mem.set_ne _ _ n3]; exact Mem.set_same _ _ _
      have p0 : w2.cell? ⟨r0, 0, none⟩ = some (.int .i64 0) := by rw [H2.out.cell HR0.out]; rfl
      have p1 : w2.cell? ⟨r0, 1, none⟩ = some (.int .i64 0) := by rw [H2.out.cell HR0.out]; rfl
      have p2 : w2.cell? ⟨r0, 2, none⟩ = some (.int .i64 0) := by rw [H2.out.cell HR0.out]; rfl
      have p3 : ∀ j, w2.frozen? ⟨r0, j, none⟩ = false := fun j => H2.out.froz HR0.out
      by_cases hx : x = n + 1
      · have hb : (x == n + 1) = true := by simpa using hx
        have HX := Lib.hid hx
        clear hx
        have FA : Hid (failAt l (n + 1) = (x, y, z)) := by
          show _ = _
          rw [HFK.out]
          exact failAt_some k hlt (by rw [← HFK.out]; exact HX.out) (fun j hj => HN.out j (by omega) hj)
        by_cases hy : y = 0
        · have hc : (y != 0) = false := by simpa using hy
          have HY := Lib.hid hy
          clear hy
          go_quiet (fail)
          go_wp2_with fail
          refine bodyPost_ret (v := .tuple #[.agg #[.int .i64 x, .int .i64 y, .int .i64 z], .nilIface]) (by simp [results, Tryd.results21, go_sem, p0, p1, p2]) rfl ?_
          have k0 := (((H2.out.drewN nq).storeTo (off := 0) (c' := #[.int .i64 x, .int .i64 0, .int .i64 0]) HR0.out (.int .i64 x) (by simp)).storeTo (off := 1) (c' := #[.int .i64 x, .int .i64 y, .int .i64 0]) (Mem.set_same _ _ _) (.int .i64 y) (by simp)).storeTo (off := 2) (c' := #[.int .i64 x, .int .i64 y, .int .i64 z]) (Mem.set_same _ _ _) (.int .i64 z) (by simp)
          refine Post.mk _ ?_ k0 ((((H2E.out.drewN _).setCell _ _).setCell _ _).setCell _ _) ⟨.nilIface, by rw [FA.out]; rfl, .inl ⟨by rw [FA.out]; exact HY.out, rfl⟩⟩
          exact Mem.le_set_of (Mem.le_set_of (Mem.le_set_of (Mem.le_trans (Mem.le_set _ _ HMID.out) (Mem.le_set _ _ HFR.out)) _ HMID.out) _ HMID.out) _ HMID.out
        · have hc : (y != 0) = true := by simpa using hy
          have HY := Lib.hid hy
          clear hy
          go_quiet (fail)
          go_wp2_with fail
          go_region_held3 (fun w' => w'.cell? ⟨rb, 0, none⟩ = some (.int .i64 x) ∧ w'.cell? ⟨rb, 1, none⟩ = some (.int .i64 y) ∧ w'.cell? ⟨rb, 2, none⟩ = some (.int .i64 z)) (go_keep)
            (first | (go_at_call 43; refine (refuse_any y _ _ (H2.out.drewN _) HY.out).mono ?_; rintro e w3 ⟨v, m3, rfl, l3, h3, n3', hv⟩; have s0 : w3.cell? ⟨rb, 0, none⟩ = some (.int .i64 x) := (by rw [h3.cell (l3 _ _ (Mem.set_same _ _ _))]; rfl); have s1 : w3.cell? ⟨rb, 1, none⟩ = some (.int .i64 y) := (by rw [h3.cell (l3 _ _ (Mem.set_same _ _ _))]; rfl); have s2 : w3.cell? ⟨rb, 2, none⟩ = some (.int .i64 z) := (by rw [h3.cell (l3 _ _ (Mem.set_same _ _ _))]; rfl); have t0 : w3.cell? ⟨r0, 0, none⟩ = some (.int .i64 0) := (by rw [h3.cell (l3 _ _ HR0.out)]; rfl); have t1 : w3.cell? ⟨r0, 1, none⟩ = some (.int .i64 0) := (by rw [h3.cell (l3 _ _ HR0.out)]; rfl); have t2 : w3.cell? ⟨r0, 2, none⟩ = some (.int .i64 0) := (by rw [h3.cell (l3 _ _ HR0.out)]; rfl); have t3 : ∀ j, w3.frozen? ⟨r0, j, none⟩ = false := (fun j => h3.froz (l3 _ _ HR0.out)); have L3 := Lib.hid l3; have H3 := Lib.hid h3; have N3 := Lib.hid n3'; have HV := Lib.hid hv; clear l3 h3 n3' hv p0 p1 p2 p3 q0 q1 q2 q3))
          go_wp2_with fail
          refine bodyPost_ret (v := .tuple #[.agg #[.int .i64 x, .int .i64 y, .int .i64 z], v]) (by simp [results, Tryd.results21, go_sem, t0, t1, t2]) rfl ?_
          have k0 := ((H3.out.storeTo (off := 0) (c' := #[.int .i64 x, .int .i64 0, .int .i64 0]) (L3.out _ _ HR0.out) (.int .i64 x) (by simp)).storeTo (off := 1) (c' := #[.int .i64 x, .int .i64 y, .int .i64 0]) (Mem.set_same _ _ _) (.int .i64 y) (by simp)).storeTo (off := 2) (c' := #[.int .i64 x, .int .i64 y, .int .i64 z]) (Mem.set_same _ _ _) (.int .i64 z) (by simp)
          refine Post.mk _ ?_ k0 (((((H2E.out.drewN _).trans N3.out).setCell _ _).setCell _ _).setCell _ _) ⟨v, by rw [FA.out]; rfl, ?_⟩
          · exact Mem.le_set_of (Mem.le_set_of (Mem.le_set_of (Mem.le_trans (Mem.le_trans (Mem.le_set _ _ HMID.out) (Mem.le_set _ _ HFR.out)) L3.out) _ HMID.out) _ HMID.out) _ HMID.out
          · rw [FA.out]
            rcases HV.out with ⟨h, _⟩ | ⟨_, b, hv, hb⟩
            · exact absurd h HY.out
            · refine .inr ⟨HY.out, b, hv, ?_⟩
              have : b ≠ r0 := by intro e; subst e; have := L3.out _ _ HR0.out; rw [hb] at this; simp at this
              rw [Mem.set_ne _ _ this, Mem.set_ne _ _ this, Mem.set_ne _ _ this]; exact hb
      · have hb : (x == n + 1) = false := by simpa using hx
        have HX := Lib.hid hx
        clear hx
        go_quiet (fail)
        go_wp2_with fail
        go_roundw
        case rel =>
          refine ⟨k + 1, by omega, by go_num, (H2.out.drewN nq).le (Mem.le_set _ _ HFR.out), H2E.out.drewN nq, fun j hj hk1 => ?_⟩
          rcases Nat.lt_or_ge j k with h | h
          · exact HN.out j hj h
          · have : j = k := by omega
            subst this
            rw [← HFK.out]; exact HX.out
        case measure => simp [intOf]; omega
    · have hkl : k = l.length := by omega
      have HK := Lib.hid hkl
      clear hkl
      have HR0 : Hid (((m.set sb (.cells #[mv, .slice fa l.length fc, ov, .int .i64 (n + 1)] 57 (0, 0))).set r0 (.cells #[.int .i64 0, .int .i64 0, .int .i64 0] 54 (0, 0))) r0 = some (.cells #[.int .i64 0, .int .i64 0, .int .i64 0] 54 (0, 0))) := Mem.set_same _ _ _
      have p0 : wr.cell? ⟨r0, 0, none⟩ = some (.int .i64 0) := by rw [HR.out.cell HR0.out]; rfl
      have p1 : wr.cell? ⟨r0, 1, none⟩ = some (.int .i64 0) := by rw [HR.out.cell HR0.out]; rfl
      have p2 : wr.cell? ⟨r0, 2, none⟩ = some (.int .i64 0) := by rw [HR.out.cell HR0.out]; rfl
      have p3 : ∀ j, wr.frozen? ⟨r0, j, none⟩ = false := fun j => HR.out.froz HR0.out
      clear d1 d2 d3
      go_wp2_with fail
      refine bodyPost_ret (v := .tuple #[.agg #[.int .i64 0, .int .i64 0, .int .i64 0], .nilIface]) (by simp [results, Tryd.results21, go_sem, p0, p1, p2]) rfl ?_
      have FA : failAt l (n + 1) = (0, 0, 0) := failAt_none fun f hf => by
        obtain ⟨j, hj, rfl⟩ := List.getElem_of_mem hf
        exact HN.out j hj (by rw [HK.out]; exact hj)
      have k0 := ((HR.out.storeTo (off := 0) (c' := #[.int .i64 0, .int .i64 0, .int .i64 0]) HR0.out (.int .i64 0) (by simp)).storeTo (off := 1) (c' := #[.int .i64 0, .int .i64 0, .int .i64 0]) (Mem.set_same _ _ _) (.int .i64 0) (by simp)).storeTo (off := 2) (c' := #[.int .i64 0, .int .i64 0, .int .i64 0]) (Mem.set_same _ _ _) (.int .i64 0) (by simp)
      refine Post.mk _ ?_ k0 (((HE.out.setCell _ _).setCell _ _).setCell _ _) ⟨.nilIface, by rw [FA]; rfl, .inl ⟨by rw [FA], rfl⟩⟩
      exact Mem.le_set_of (Mem.le_set_of (Mem.le_set_of (Mem.le_set _ _ HMID.out) _ HMID.out) _ HMID.out) _ HMID.out
end Go.Proofs.YtcdmdkgiabfbeaaDoor

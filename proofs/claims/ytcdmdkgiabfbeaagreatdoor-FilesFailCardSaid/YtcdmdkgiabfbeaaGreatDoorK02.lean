/-
  begin: counts an operation; its failure.
-/
import Derived.Test.YtcdmdkgiabfbeaaGreatDoorK01
import Derived.Deep.RegionHeld3
import Derived.MapKept
namespace Go.Proofs.YtcdmdkgiabfbeaaGreatDoor
open Go.RowKit

abbrev Fail3 := Int × Int × Int
def failCells (f : Fail3) : List Value := [.int .i64 f.1, .int .i64 f.2.1, .int .i64 f.2.2]
def failV (f : Fail3) : Value := .agg #[.int .i64 f.1, .int .i64 f.2.1, .int .i64 f.2.2]
def failAt (l : List Fail3) (n : Int) : Fail3 := (l.find? fun f => decide (f.1 = n)).getD (0, 0, 0)
def Fails (m : Mem) (v : Value) (l : List Fail3) : Prop := Row m v 47 3 l.length (l.flatMap failCells)

theorem failCells_get : ∀ (l : List Fail3) (k : Nat) (h : k < l.length), (l.flatMap failCells)[k * 3]? = some (.int .i64 l[k].1) ∧ (l.flatMap failCells)[k * 3 + 1]? = some (.int .i64 l[k].2.1) ∧ (l.flatMap failCells)[k * 3 + 2]? = some (.int .i64 l[k].2.2)
  | f :: l, 0, _ => by simp [failCells]
  | f :: l, k + 1, h => by
    have := failCells_get l k (by simpa using h)
    simp only [List.flatMap_cons, failCells, Nat.add_mul, Nat.one_mul]
    simpa [failCells] using this

theorem failAt_none {l : List Fail3} {n : Int} (h : ∀ f ∈ l, f.1 ≠ n) : failAt l n = (0, 0, 0) := by
  unfold failAt
  rw [List.find?_eq_none.2 (by simpa using h)]; rfl
theorem failAt_some {l : List Fail3} {n : Int} (k : Nat) (h : k < l.length) (hk : l[k].1 = n) (hno : ∀ j (hj : j < k), (l[j]'(by omega)).1 ≠ n) : failAt l n = l[k] := by
  unfold failAt
  have : l.find? (fun f => decide (f.1 = n)) = some l[k] := by
    rw [List.find?_eq_some_iff_getElem]
    exact ⟨by simpa using hk, k, h, rfl, fun j hj => by simpa using hno j hj⟩
  rw [this]; rfl

set_option maxHeartbeats 1000000 in
theorem begin_any (sb : Nat) (mv fv ov : Value) (n : Int) (l : List Fail3) (w : World) (m : Mem) (hm : Has w m)
    (hs : m sb = some (.cells #[mv, fv, ov, .int .i64 n] 71 (0, 0))) (hf : Fails m fv l) (hl : l.length ≤ 1000) (h0 : 0 ≤ n) (h1 : n ≤ 1000000) :
    Calls Tryz.prog 25 #[.pointer (some ⟨sb, 0, none⟩)] w
      (Post w (m.set sb (.cells #[mv, fv, ov, .int .i64 (n + 1)] 71 (0, 0))) fun v m' => ∃ ev, v = .tuple #[failV (failAt l (n + 1)), ev] ∧ ErrIs m' ev (failAt l (n + 1)).2.1) := by
  obtain ⟨fa, fc, rfl, hfc⟩ := hf.lenV
  have c1 : w.cell? ⟨sb, 1, none⟩ = some (.slice fa l.length fc) := by rw [hm.cell hs]; rfl
  have c3 : w.cell? ⟨sb, 3, none⟩ = some (.int .i64 n) := by rw [hm.cell hs]; rfl
  have f3 : w.frozen? ⟨sb, 3, none⟩ = false := hm.froz hs
  have hlt := hm.lt hs
  have hne : sb ≠ w.heap.size := by omega
  have H := Lib.hid hm
  have HS := Lib.hid hs
  have HF := Lib.hid hf
  clear hm hs hf
  go_enter Tryz.func25, Tryz.ntmps25
  go_wp2_with fail
  refine wp_opaque w _ ((H.out.storeTo (off := 3) (c' := #[mv, .slice fa l.length fc, ov, .int .i64 (n + 1)]) HS.out (.int .i64 (n + 1)) (by simp)).alloc (.cells #[.int .i64 0, .int .i64 0, .int .i64 0] 47)) (((Env.refl w).setCell _ _).alloc _) ?_
  intro w1 h1m h1e
  have hmid : (m.set sb (.cells #[mv, .slice fa l.length fc, ov, .int .i64 (n + 1)] 71 (0, 0))) w.heap.size = none := by
    rw [Mem.set_ne _ _ (Ne.symm hne)]; exact H.out.fresh (Nat.le_refl _)
  rw [World.size_setCell] at h1m
  have HM1 : Hid (Has w1 ((m.set sb (.cells #[mv, .slice fa l.length fc, ov, .int .i64 (n + 1)] 71 (0, 0))).set w.heap.size (.cells #[.int .i64 0, .int .i64 0, .int .i64 0] 47 (0, 0)))) := h1m
  have HE1 := Lib.hid h1e
  have HMID := Lib.hid hmid
  clear h1m h1e hmid c1 c3 f3
  generalize w.heap.size = r0 at *
  have hrs : ∀ wr, Has wr ((m.set sb (.cells #[mv, .slice fa l.length fc, ov, .int .i64 (n + 1)] 71 (0, 0))).set r0 (.cells #[.int .i64 0, .int .i64 0, .int .i64 0] 47 (0, 0))) →
     wr.cell? ⟨sb, 3, none⟩ = some (.int .i64 (n + 1)) ∧ sb < wr.heap.size ∧ r0 < wr.heap.size := fun wr h => by
    have k : ((m.set sb (.cells #[mv, .slice fa l.length fc, ov, .int .i64 (n + 1)] 71 (0, 0))).set r0 (.cells #[.int .i64 0, .int .i64 0, .int .i64 0] 47 (0, 0))) sb = some (.cells #[mv, .slice fa l.length fc, ov, .int .i64 (n + 1)] 71 (0, 0)) := by
      rw [Mem.set_ne _ _ hne, Mem.set_same]
    exact ⟨by rw [h.cell k]; rfl, h.lt k, h.lt (Mem.set_same _ _ _)⟩
  have HRS := Lib.hid hrs
  clear hrs
  go_loopw [18] (fun i wr => ∃ k : Nat, k ≤ l.length ∧ i = .int .i64 k ∧ Hid (Has wr ((m.set sb (.cells #[mv, .slice fa l.length fc, ov, .int .i64 (n + 1)] 71 (0, 0))).set r0 (.cells #[.int .i64 0, .int .i64 0, .int .i64 0] 47 (0, 0)))) ∧ Hid (Env w wr) ∧ Hid (∀ j (hj : j < l.length), j < k → l[j].1 ≠ n + 1)) (fun i _ => l.length - (intOf i).toNat)
  case atStart => exact ⟨0, Nat.zero_le _, rfl, HM1, HE1, fun j _ hj => by omega⟩
  case round =>
    obtain ⟨k, hk, rfl, HR, HE, HN⟩ := hrel
    obtain ⟨d3, d1, d2⟩ := HRS.out wr HR.out
    by_cases hlt : k < l.length
    · obtain ⟨fb, cap, cur, fz, hv, hg, _, _, _, _, ht⟩ : ∃ fb cap cur fz, Value.slice fa l.length fc = .slice (some ⟨fb, 0, none⟩) l.length cap ∧ m fb = some (.cells cur 47 fz) ∧ Thaw cur fz ∧ l.length ≤ cap ∧ cap ≤ maxLen ∧ cap * 3 ≤ cur.size ∧ cur.toList.take (l.length * 3) = l.flatMap failCells := by
        rcases HF.out.2 with ⟨_, h⟩ | h
        · omega
        · exact h
      obtain ⟨g0, g1, g2⟩ := failCells_get l k hlt
      have r1 : m r0 = none := by have := HMID.out; rwa [Mem.set_ne _ _ (Ne.symm hne)] at this
      have n1 : fb ≠ sb := by intro e; subst e; have := HS.out; rw [hg] at this; simp at this
      have n2 : fb ≠ r0 := by intro e; subst e; rw [r1] at hg; cases hg
      have hk' : ((m.set sb (.cells #[mv, .slice fa l.length fc, ov, .int .i64 (n + 1)] 71 (0, 0))).set r0 (.cells #[.int .i64 0, .int .i64 0, .int .i64 0] 47 (0, 0))) fb = some (.cells cur 47 fz) := by
        rw [Mem.set_ne _ _ n2, Mem.set_ne _ _ n1]; exact hg
      have hcell : ∀ j v, j < l.length * 3 → (l.flatMap failCells)[j]? = some v → wr.cell? ⟨fb, j, none⟩ = some v := fun j v hj h => by
        rw [HR.out.cell hk', ← h, ← ht, List.getElem?_take, if_pos hj]; simp
      have e0 := hcell _ _ (by omega) g0
      have e1 := hcell _ _ (by omega) g1
      have e2 := hcell _ _ (by omega) g2
      have flt : fb < wr.heap.size := HR.out.lt hk'
      obtain ⟨⟨x, y, z⟩, hf⟩ : ∃ f, f = l[k] := ⟨_, rfl⟩
      rw [← hf] at e0 e1 e2
      simp only [Value.slice.injEq] at hv
      obtain ⟨rfl, _, rfl⟩ := hv
      have HFK := Lib.hid hf
      have R1 := Lib.hid r1
      have N1 := Lib.hid n1
      clear hf r1 hg ht hcell g0 g1 g2 hk' n1 n2
      go_wp2_with fail
      have hfr : ((m.set sb (.cells #[mv, .slice (some ⟨fb, 0, none⟩) l.length fc, ov, .int .i64 (n + 1)] 71 (0, 0))).set r0 (.cells #[.int .i64 0, .int .i64 0, .int .i64 0] 47 (0, 0))) wr.heap.size = none := HR.out.fresh (Nat.le_refl _)
      refine wp_opaque w _ (HR.out.alloc (.cells #[.int .i64 x, .int .i64 y, .int .i64 z] 47)) (HE.out.alloc _) ?_
      intro w2 h2m h2e
      have q0 : w2.cell? ⟨wr.heap.size, 0, none⟩ = some (.int .i64 x) := by rw [h2m.cell (Mem.set_same _ _ _)]; rfl
      have q1 : w2.cell? ⟨wr.heap.size, 1, none⟩ = some (.int .i64 y) := by rw [h2m.cell (Mem.set_same _ _ _)]; rfl
      have q2 : w2.cell? ⟨wr.heap.size, 2, none⟩ = some (.int .i64 z) := by rw [h2m.cell (Mem.set_same _ _ _)]; rfl
      have H2 := Lib.hid h2m
      have H2E := Lib.hid h2e
      have HFR := Lib.hid hfr
      obtain ⟨q3, q4, q5⟩ := HRS.out w2 (h2m.le (Mem.le_set _ _ hfr))
      have n3 : r0 ≠ wr.heap.size := by omega
      have n4 : wr.heap.size ≠ r0 := by omega
      clear h2m h2e hfr d1 d2 d3 flt e0 e1 e2
      generalize wr.heap.size = rb at *
      have HR0 : Hid ((((m.set sb (.cells #[mv, .slice (some ⟨fb, 0, none⟩) l.length fc, ov, .int .i64 (n + 1)] 71 (0, 0))).set r0 (.cells #[.int .i64 0, .int .i64 0, .int .i64 0] 47 (0, 0))).set rb (.cells #[.int .i64 x, .int .i64 y, .int .i64 z] 47 (0, 0))) r0 = some (.cells #[.int .i64 0, .int .i64 0, .int .i64 0] 47 (0, 0))) := by
        show _ = _
        rw [Mem.set_ne _ _ n3]; exact Mem.set_same _ _ _
      have p0 : w2.cell? ⟨r0, 0, none⟩ = some (.int .i64 0) := by rw [H2.out.cell HR0.out]; rfl
      have p1 : w2.cell? ⟨r0, 1, none⟩ = some (.int .i64 0) := by rw [H2.out.cell HR0.out]; rfl
      have p2 : w2.cell? ⟨r0, 2, none⟩ = some (.int .i64 0) := by rw [H2.out.cell HR0.out]; rfl
      have p3 : ∀ j, w2.frozen? ⟨r0, j, none⟩ = false := fun j => H2.out.froz HR0.out
      by_cases hx : x = n + 1
      · have hb : (x == n + 1) = true := by simpa using hx
        have HX := Lib.hid hx
        clear hx
        have FA : Hid (failAt l (n + 1) = (x, y, z)) := by
          show _ = _
          rw [HFK.out]
          exact failAt_some k hlt (by rw [← HFK.out]; exact HX.out) (fun j hj => HN.out j (by omega) hj)
        by_cases hy : y = 0
        · have hc : (y != 0) = false := by simpa using hy
          have HY := Lib.hid hy
          clear hy
          go_quiet (fail)
          go_wp2_with fail
          refine bodyPost_ret (v := .tuple #[.agg #[.int .i64 x, .int .i64 y, .int .i64 z], .nilIface]) (by simp [results, Tryz.results25, go_sem, p0, p1, p2]) rfl ?_
          have k0 := (((H2.out.drewN nq).storeTo (off := 0) (c' := #[.int .i64 x, .int .i64 0, .int .i64 0]) HR0.out (.int .i64 x) (by simp)).storeTo (off := 1) (c' := #[.int .i64 x, .int .i64 y, .int .i64 0]) (Mem.set_same _ _ _) (.int .i64 y) (by simp)).storeTo (off := 2) (c' := #[.int .i64 x, .int .i64 y, .int .i64 z]) (Mem.set_same _ _ _) (.int .i64 z) (by simp)
          refine Post.mk _ ?_ k0 ((((H2E.out.drewN _).setCell _ _).setCell _ _).setCell _ _) ⟨.nilIface, by rw [FA.out]; rfl, .inl ⟨by rw [FA.out]; exact HY.out, rfl⟩⟩
          exact Mem.le_set_of (Mem.le_set_of (Mem.le_set_of (Mem.le_trans (Mem.le_set _ _ HMID.out) (Mem.le_set _ _ HFR.out)) _ HMID.out) _ HMID.out) _ HMID.out
        · have hc : (y != 0) = true := by simpa using hy
          have HY := Lib.hid hy
          clear hy
          go_quiet (fail)
          go_wp2_with fail
          go_region_held3 (fun w' => w'.cell? ⟨rb, 0, none⟩ = some (.int .i64 x) ∧ w'.cell? ⟨rb, 1, none⟩ = some (.int .i64 y) ∧ w'.cell? ⟨rb, 2, none⟩ = some (.int .i64 z)) (go_keep)
            (first | (go_at_call 44; refine (refuse_any y _ _ (H2.out.drewN _) HY.out).mono ?_; rintro e w3 ⟨v, m3, rfl, l3, h3, n3', hv⟩; have s0 : w3.cell? ⟨rb, 0, none⟩ = some (.int .i64 x) := (by rw [h3.cell (l3 _ _ (Mem.set_same _ _ _))]; rfl); have s1 : w3.cell? ⟨rb, 1, none⟩ = some (.int .i64 y) := (by rw [h3.cell (l3 _ _ (Mem.set_same _ _ _))]; rfl); have s2 : w3.cell? ⟨rb, 2, none⟩ = some (.int .i64 z) := (by rw [h3.cell (l3 _ _ (Mem.set_same _ _ _))]; rfl); have t0 : w3.cell? ⟨r0, 0, none⟩ = some (.int .i64 0) := (by rw [h3.cell (l3 _ _ HR0.out)]; rfl); have t1 : w3.cell? ⟨r0, 1, none⟩ = some (.int .i64 0) := (by rw [h3.cell (l3 _ _ HR0.out)]; rfl); have t2 : w3.cell? ⟨r0, 2, none⟩ = some (.int .i64 0) := (by rw [h3.cell (l3 _ _ HR0.out)]; rfl); have t3 : ∀ j, w3.frozen? ⟨r0, j, none⟩ = false := (fun j => h3.froz (l3 _ _ HR0.out)); have L3 := Lib.hid l3; have H3 := Lib.hid h3; have N3 := Lib.hid n3'; have HV := Lib.hid hv; clear l3 h3 n3' hv p0 p1 p2 p3 q0 q1 q2 q3))
          go_wp2_with fail
          refine bodyPost_ret (v := .tuple #[.agg #[.int .i64 x, .int .i64 y, .int .i64 z], v]) (by simp [results, Tryz.results25, go_sem, t0, t1, t2]) rfl ?_
          have k0 := ((H3.out.storeTo (off := 0) (c' := #[.int .i64 x, .int .i64 0, .int .i64 0]) (L3.out _ _ HR0.out) (.int .i64 x) (by simp)).storeTo (off := 1) (c' := #[.int .i64 x, .int .i64 y, .int .i64 0]) (Mem.set_same _ _ _) (.int .i64 y) (by simp)).storeTo (off := 2) (c' := #[.int .i64 x, .int .i64 y, .int .i64 z]) (Mem.set_same _ _ _) (.int .i64 z) (by simp)
          refine Post.mk _ ?_ k0 (((((H2E.out.drewN _).trans N3.out).setCell _ _).setCell _ _).setCell _ _) ⟨v, by rw [FA.out]; rfl, ?_⟩
          · exact Mem.le_set_of (Mem.le_set_of (Mem.le_set_of (Mem.le_trans (Mem.le_trans (Mem.le_set _ _ HMID.out) (Mem.le_set _ _ HFR.out)) L3.out) _ HMID.out) _ HMID.out) _ HMID.out
          · rw [FA.out]
            rcases HV.out with ⟨h, _⟩ | ⟨_, b, hv, hb⟩
            · exact absurd h HY.out
            · refine .inr ⟨HY.out, b, hv, ?_⟩
              have : b ≠ r0 := by intro e; subst e; have := L3.out _ _ HR0.out; rw [hb] at this; simp at this
              rw [Mem.set_ne _ _ this, Mem.set_ne _ _ this, Mem.set_ne _ _ this]; exact hb
      · have hb : (x == n + 1) = false := by simpa using hx
        have HX := Lib.hid hx
        clear hx
        go_quiet (fail)
        go_wp2_with fail
        go_roundw
        case rel =>
          refine ⟨k + 1, by omega, by go_num, (H2.out.drewN nq).le (Mem.le_set _ _ HFR.out), H2E.out.drewN nq, fun j hj hk1 => ?_⟩
          rcases Nat.lt_or_ge j k with h | h
          · exact HN.out j hj h
          · have : j = k := by omega
            subst this
            rw [← HFK.out]; exact HX.out
        case measure => simp [intOf]; omega
    · have hkl : k = l.length := by omega
      have HK := Lib.hid hkl
      clear hkl
      have HR0 : Hid (((m.set sb (.cells #[mv, .slice fa l.length fc, ov, .int .i64 (n + 1)] 71 (0, 0))).set r0 (.cells #[.int .i64 0, .int .i64 0, .int .i64 0] 47 (0, 0))) r0 = some (.cells #[.int .i64 0, .int .i64 0, .int .i64 0] 47 (0, 0))) := Mem.set_same _ _ _
      have p0 : wr.cell? ⟨r0, 0, none⟩ = some (.int .i64 0) := by rw [HR.out.cell HR0.out]; rfl
      have p1 : wr.cell? ⟨r0, 1, none⟩ = some (.int .i64 0) := by rw [HR.out.cell HR0.out]; rfl
      have p2 : wr.cell? ⟨r0, 2, none⟩ = some (.int .i64 0) := by rw [HR.out.cell HR0.out]; rfl
      have p3 : ∀ j, wr.frozen? ⟨r0, j, none⟩ = false := fun j => HR.out.froz HR0.out
      clear d1 d2 d3
      go_wp2_with fail
      refine bodyPost_ret (v := .tuple #[.agg #[.int .i64 0, .int .i64 0, .int .i64 0], .nilIface]) (by simp [results, Tryz.results25, go_sem, p0, p1, p2]) rfl ?_
      have FA : failAt l (n + 1) = (0, 0, 0) := failAt_none fun f hf => by
        obtain ⟨j, hj, rfl⟩ := List.getElem_of_mem hf
        exact HN.out j hj (by rw [HK.out]; exact hj)
      have k0 := ((HR.out.storeTo (off := 0) (c' := #[.int .i64 0, .int .i64 0, .int .i64 0]) HR0.out (.int .i64 0) (by simp)).storeTo (off := 1) (c' := #[.int .i64 0, .int .i64 0, .int .i64 0]) (Mem.set_same _ _ _) (.int .i64 0) (by simp)).storeTo (off := 2) (c' := #[.int .i64 0, .int .i64 0, .int .i64 0]) (Mem.set_same _ _ _) (.int .i64 0) (by simp)
      refine Post.mk _ ?_ k0 (((HE.out.setCell _ _).setCell _ _).setCell _ _) ⟨.nilIface, by rw [FA]; rfl, .inl ⟨by rw [FA], rfl⟩⟩
      exact Mem.le_set_of (Mem.le_set_of (Mem.le_set_of (Mem.le_set _ _ HMID.out) _ HMID.out) _ HMID.out) _ HMID.out
end Go.Proofs.YtcdmdkgiabfbeaaGreatDoor

/-
  The map of files by their names: what a look-up, an update, a delete and len come to, in memory that is known.
-/
namespace Go.Proofs.YtcdmdkgiabfbeaaGreatDoor
open Go.RowKit Go.MapKept

/-- A file of the map: its name, its block, the entry's stamp; the slice of its bytes, its bytes. -/
structure Ent where
  name : ByteArray
  fb : Nat
  born : Nat
  bv : Value
  bs : List UInt8

def Ent.entry (e : Ent) : MapEntry := { key := .string e.name, val := .pointer (some ⟨e.fb, 0, none⟩), born := e.born }
/-- The map's block. -/
def mapObj (L : List Ent) (clock : Nat) : Obj := .map (L.map Ent.entry).toArray clock

theorem bq (a b : ByteArray) : (a == b) = decide (a = b) := by
  by_cases h : a = b
  · rw [(bytes_beq a b).2 h]; simp [h]
  · cases e : a == b
    · simp [h]
    · exact absurd ((bytes_beq a b).1 e) h

def findAt (s : ByteArray) : List Ent → Nat → Option (Nat × Ent)
  | [], _ => none
  | e :: es, i => if s = e.name then some (i, e) else findAt s es (i + 1)

theorem findNow_ents (s : ByteArray) : ∀ (L : List Ent) (i : Nat),
    Instr.findNow .string (.string s) (L.map Ent.entry) i = some ((findAt s L i).map fun p => (p.1, .pointer (some ⟨p.2.fb, 0, none⟩))) := by
  intro L
  induction L with
  | nil => intro i; rfl
  | cons e es ih =>
    intro i
    simp only [List.map_cons, Instr.findNow, Ent.entry, Instr.sameNow, findAt, bq]
    by_cases h : s = e.name
    · simp [h]
    · simp only [h, decide_false, if_false]; exact ih (i + 1)

/-- The file of a name. -/
def getE (L : List Ent) (s : ByteArray) : Option Ent := L.find? fun e => decide (s = e.name)

theorem findAt_get (s : ByteArray) : ∀ (L : List Ent) (i : Nat), (findAt s L i).map (·.2) = getE L s := by
  intro L
  induction L with
  | nil => intro i; rfl
  | cons e es ih =>
    intro i
    simp only [findAt, getE, List.find?_cons]
    by_cases h : s = e.name
    · simp [h]
    · simp only [h, decide_false, if_false]; exact ih (i + 1)

theorem findAt_spec (s : ByteArray) : ∀ (L : List Ent) (i j : Nat) (e : Ent), findAt s L i = some (j, e) → i ≤ j ∧ L[j - i]? = some e ∧ e.name = s ∧ ∀ x ∈ L.take (j - i), x.name ≠ s := by
  intro L
  induction L with
  | nil => intro i j e h; cases h
  | cons d es ih =>
    intro i j e h
    simp only [findAt] at h
    by_cases hd : s = d.name
    · rw [if_pos hd] at h
      simp only [Option.some.injEq, Prod.mk.injEq] at h
      obtain ⟨rfl, rfl⟩ := h
      exact ⟨Nat.le_refl _, by simp, hd.symm, by simp⟩
    · rw [if_neg hd] at h
      obtain ⟨h1, h2, h3, h4⟩ := ih (i + 1) j e h
      refine ⟨by omega, ?_, h3, ?_⟩
      · rw [show j - i = (j - (i + 1)) + 1 from by omega]; simpa using h2
      · rw [show j - i = (j - (i + 1)) + 1 from by omega]
        intro x hx
        rcases List.mem_cons.1 (by simpa using hx) with rfl | hx
        · exact fun e => hd e.symm
        · exact h4 x hx

theorem findAt_none (s : ByteArray) : ∀ (L : List Ent) (i : Nat), findAt s L i = none ↔ ∀ x ∈ L, x.name ≠ s := by
  intro L
  induction L with
  | nil => intro i; simp [findAt]
  | cons d es ih =>
    intro i
    simp only [findAt]
    by_cases hd : s = d.name
    · rw [if_pos hd]; simp [hd]
    · rw [if_neg hd, ih]
      have : ¬ d.name = s := fun e => hd e.symm
      simp [this]

/-- What a look-up hands back. -/
def lookV (L : List Ent) (s : ByteArray) : Value := match getE L s with | some e => .pointer (some ⟨e.fb, 0, none⟩) | none => .pointer none

theorem mapList (L : List Ent) (clock : Nat) : mapObj L clock = .map (L.map Ent.entry).toArray clock := rfl

theorem zeroF (w : World) : (zeroValue 67).run Tryz.prog w = .ok (.pointer none) w := by kernel_rfl
theorem checkS (b : Bool) (s : ByteArray) (w : World) : (Instr.checkKey b 10000 9 (.string s)).run Tryz.prog w = .ok () w := by kernel_rfl
theorem run_findS (s : ByteArray) (L : List Ent) (w : World) :
    (Instr.findKey 9 (.string s) (L.map Ent.entry)).run Tryz.prog w = .ok ((findAt s L 0).map fun p => (p.1, .pointer (some ⟨p.2.fb, 0, none⟩))) w := by
  simp [Instr.findKey, run_underlying Tryz.underlying9, findNow_ents]

theorem run_lookupF (mb clock : Nat) (L : List Ent) (s : ByteArray) (w : World) (h : w.heap[mb]? = some (.map (L.map Ent.entry).toArray clock)) :
    (Instr.lookup 68 (.map (some mb)) (.string s) false).run Tryz.prog w = .ok (lookV L s) w := by
  have g := findAt_get s L 0
  simp only [Instr.lookup, Sem.run_bind, run_underlying Tryz.underlying68, MapKept.run_getObj_map h, checkS, Sem.run_pure, Result.andThen_ok, run_findS]
  unfold lookV
  cases hf : findAt s L 0 with
  | none => rw [hf] at g; simp [← g]
  | some p => rw [hf] at g; simp [← g]

theorem run_lookupNil (s : ByteArray) (w : World) :
    (Instr.lookup 68 (.map none) (.string s) false).run Tryz.prog w = .ok (.pointer none) w := by
  simp [Instr.lookup, run_underlying Tryz.underlying68, checkS, Instr.findKey, Instr.findNow, run_underlying Tryz.underlying9]

theorem run_lookupOkF (mb clock : Nat) (L : List Ent) (s : ByteArray) (w : World) (h : w.heap[mb]? = some (.map (L.map Ent.entry).toArray clock)) :
    (Instr.lookup 68 (.map (some mb)) (.string s) true).run Tryz.prog w = .ok (.tuple #[lookV L s, .bool (getE L s).isSome]) w := by
  have g := findAt_get s L 0
  simp only [Instr.lookup, Sem.run_bind, run_underlying Tryz.underlying68, MapKept.run_getObj_map h, checkS, Sem.run_pure, Result.andThen_ok, run_findS]
  unfold lookV
  cases hf : findAt s L 0 with
  | none => rw [hf] at g; simp [← g]
  | some p => rw [hf] at g; simp [← g]

/-- The files behind an update: the name's entry bears the new block, or stands at the end. -/
def putE (L : List Ent) (clock : Nat) (e : Ent) : List Ent × Nat :=
  match findAt e.name L 0 with
  | some (j, d) => (L.modify j fun _ => { e with name := d.name, born := d.born }, clock)
  | none => (L ++ [{ e with born := clock }], clock + 1)

def setObjW (w : World) (b : Nat) (o : Obj) : World := { w with heap := w.heap.setIfInBounds b o }

theorem Has.setObj {w : World} {m : Mem} (h : Has w m) {b : Nat} {o : Obj} (k : m b = some o) (o' : Obj) : Has (setObjW w b o') (m.set b o') := by
  intro j x hj
  show (w.heap.setIfInBounds b o')[j]? = some x
  by_cases e : j = b
  · subst e
    rw [Mem.set_same] at hj
    have := h.lt k
    rw [Array.getElem?_setIfInBounds]
    simp [this]; simpa using hj
  · rw [Mem.set_ne _ _ e] at hj
    rw [Array.getElem?_setIfInBounds, if_neg (Ne.symm e)]; exact h _ _ hj
theorem Env.setObj {a w : World} (h : Env a w) (b : Nat) (o : Obj) : Env a (setObjW w b o) := ⟨h.os, h.tape, h.output⟩

theorem modify_entry (L : List Ent) (j : Nat) (d : Ent) (hj : L[j]? = some d) (e : Ent) (hn : d.name = e.name) :
    ((L.map Ent.entry).toArray.modify j fun x => { x with key := .string e.name, val := .pointer (some ⟨e.fb, 0, none⟩) }) = ((L.modify j fun _ => { e with name := d.name, born := d.born }).map Ent.entry).toArray := by
  apply Array.ext'
  simp only [List.modify_toArray, List.toList_toArray]
  apply List.ext_getElem?
  intro i
  simp only [List.getElem?_modify, List.getElem?_map]
  by_cases h : j = i
  · subst h
    rw [hj]
    simp [Ent.entry, hn]
  · simp [h]

theorem run_updateF (mb clock : Nat) (L : List Ent) (e : Ent) (w : World) (h : w.heap[mb]? = some (.map (L.map Ent.entry).toArray clock)) :
    (Instr.mapUpdate 68 (.map (some mb)) (.string e.name) (.pointer (some ⟨e.fb, 0, none⟩))).run Tryz.prog w
      = .ok () (setObjW w mb (mapObj (putE L clock e).1 (putE L clock e).2)) := by
  simp only [Instr.mapUpdate, Sem.run_bind, run_underlying Tryz.underlying68, MapKept.run_getObj_map h, checkS, Result.andThen_ok, run_findS, putE]
  cases hf : findAt e.name L 0 with
  | none =>
    simp only [Option.map_none]
    rw [MapKept.run_setObj_map _ h]
    simp [setObjW, mapObj, Ent.entry]
  | some p =>
    obtain ⟨j, d⟩ := p
    obtain ⟨_, hj, hn, _⟩ := findAt_spec _ _ _ _ _ hf
    simp only [Nat.sub_zero] at hj
    simp only [Option.map_some, Instr.keyThatStays]
    have hk : (((L.map Ent.entry).toArray[j]?).map (·.key)).getD (.string e.name) = .string e.name := by
      simp [hj, Ent.entry, hn]
    rw [hk]
    simp only [Instr.sameBits, bq, decide_true, if_true, Sem.run_bind, Sem.run_pure, Result.andThen_ok]
    rw [MapKept.run_setObj_map _ h]
    rw [modify_entry L j d hj e hn]
    rfl

theorem eraseIdx_map {α β : Type} (f : α → β) : ∀ (l : List α) (j : Nat), (l.map f).eraseIdx j = (l.eraseIdx j).map f
  | [], _ => rfl
  | _ :: _, 0 => rfl
  | a :: l, j + 1 => by simp [eraseIdx_map f l j]

theorem run_deleteF (mb clock : Nat) (L : List Ent) (s : ByteArray) (w : World) (h : w.heap[mb]? = some (.map (L.map Ent.entry).toArray clock)) :
    (Builtin.delete_ #[68, 9] 0 #[.map (some mb), .string s]).run Tryz.prog w
      = .ok (.tuple #[]) (setObjW w mb (mapObj (match findAt s L 0 with | some (j, _) => L.eraseIdx j | none => L) clock)) := by
  simp only [Builtin.delete_, List.getElem?_toArray, List.getElem?_cons_zero, List.getElem?_cons_succ]
  simp only [Sem.run_bind, run_underlying Tryz.underlying68, MapKept.run_getObj_map h, checkS, Result.andThen_ok, run_findS]
  cases hf : findAt s L 0 with
  | none =>
    simp only [Option.map_none, Sem.run_bind]
    rw [MapKept.run_setObj_map _ h]
    simp [setObjW, mapObj]
  | some p =>
    obtain ⟨j, d⟩ := p
    obtain ⟨_, hj, hn, _⟩ := findAt_spec _ _ _ _ _ hf
    have hlt : j < L.length := by
      rcases Nat.lt_or_ge j L.length with x | x
      · exact x
      · simp only [Nat.sub_zero] at hj; rw [List.getElem?_eq_none x] at hj; cases hj
    simp only [Option.map_some, Sem.run_bind]
    rw [MapKept.run_setObj_map _ h]
    simp [setObjW, mapObj, Array.eraseIdxIfInBounds, hlt, eraseIdx_map]

theorem run_lenF (mb clock : Nat) (L : List Ent) (w : World) (T : TypeId) (h : w.heap[mb]? = some (.map (L.map Ent.entry).toArray clock)) :
    (Builtin.len_ #[68] T #[.map (some mb)]).run Tryz.prog w = .ok (.int .i64 L.length) w := by
  simp [Builtin.len_, run_underlying Tryz.underlying68, MapKept.run_getObj_map h, Result.andThen, goInt]
end Go.Proofs.YtcdmdkgiabfbeaaGreatDoor

/-
  What a *files.Store is in memory, and the functions that only look at it: many, there, Create's and Open's and Rename's question.
-/
namespace Go.Proofs.YtcdmdkgiabfbeaaGreatDoor
open Go.RowKit

/-- An open file: its block, its file's block and name, its mode, its position. -/
structure Hnd where
  ob : Nat
  fb : Nat
  name : ByteArray
  mode : Int
  pos : Nat

/-- A store: its map's block, the map's clock, its files, the slices of the fails and of the open files; the open files, the fails, the operations. -/
structure G where
  mb : Nat
  clock : Nat
  L : List Ent
  fv : Value
  ov : Value
  O : List (Option Hnd)
  fails : List Fail3
  n : Nat

def hndV : Option Hnd → Value
  | none => .pointer none
  | some h => .pointer (some ⟨h.ob, 0, none⟩)
def storeObj (g : G) : Obj := .cells #[.map (some g.mb), g.fv, g.ov, .int .i64 g.n] 71 (0, 0)
def fileObj (e : Ent) : Obj := .cells #[e.bv] 80 (0, 0)
def hndObj (h : Hnd) : Obj := .cells #[.pointer (some ⟨h.fb, 0, none⟩), .int .i64 h.mode, .int .i64 h.pos] 88 (0, 0)

structure SRep (m : Mem) (sb : Nat) (g : G) : Prop where
  store : m sb = some (storeObj g)
  map : m g.mb = some (mapObj g.L g.clock)
  file : ∀ e ∈ g.L, m e.fb = some (fileObj e)
  row : ∀ e ∈ g.L, Row m e.bv 5 1 e.bs.length (e.bs.map byteV)
  names : (g.L.map (·.name)).Nodup
  fbs : (g.L.map (·.fb)).Nodup
  sep : ∀ e ∈ g.L, ∀ d ∈ g.L, e.fb ≠ d.fb → ∀ b, e.bv.ownBlock = some b → d.bv.ownBlock ≠ some b
  bornN : (g.L.map (·.born)).Nodup
  bornC : ∀ e ∈ g.L, e.born < g.clock
  fails : Fails m g.fv g.fails
  opens : Row m g.ov 83 1 g.O.length (g.O.map hndV)
  hnd : ∀ h, some h ∈ g.O → m h.ob = some (hndObj h)
  hof : ∀ h, some h ∈ g.O → ∃ e ∈ g.L, e.fb = h.fb ∧ e.name = h.name
  obs : ∀ (i j : Nat) (h k : Hnd), g.O[i]? = some (some h) → g.O[j]? = some (some k) → h.ob = k.ob → i = j
  olen : g.O.length ≤ 32
  llen : g.L.length ≤ 100
  nm : ∀ e ∈ g.L, isNameB e.name = true
  bsz : ∀ e ∈ g.L, e.bs.length ≤ 262144
  pos : ∀ h, some h ∈ g.O → h.pos ≤ 262144
  fl : g.fails.length ≤ 1000

theorem SRep.le {m m' : Mem} {sb : Nat} {g : G} (h : SRep m sb g) (l : m.le m') : SRep m' sb g :=
  { h with
    store := l _ _ h.store
    map := l _ _ h.map
    file := fun e he => l _ _ (h.file e he)
    row := fun e he => (h.row e he).le l
    fails := Row.le h.fails l
    opens := h.opens.le l
    hnd := fun k hk => l _ _ (h.hnd k hk) }

/-- The store counts: what else it is stays. -/
theorem SRep.count {m : Mem} {sb : Nat} {g : G} (h : SRep m sb g) : SRep (m.set sb (storeObj { g with n := g.n + 1 })) sb { g with n := g.n + 1 } := by
  have ne : ∀ {b : Nat} {o : Obj}, m b = some o → o ≠ storeObj g → b ≠ sb := fun hb ho e => by subst e; rw [h.store] at hb; exact ho (Option.some.inj hb).symm
  have rne : ∀ {v : Value} {e : TypeId} {k n : Nat} {xs : List Value}, Row m v e k n xs → e ≠ 71 → v.ownBlock ≠ some sb := fun hr he hb => by
    obtain ⟨cap, cur, fz, _, hg, _⟩ := hr.own hb
    rw [h.store] at hg
    simp only [storeObj, Option.some.injEq, Obj.cells.injEq] at hg
    exact he hg.2.1.symm
  exact { h with
    store := Mem.set_same _ _ _
    map := by rw [Mem.set_ne _ _ (ne h.map (by simp [mapObj, storeObj]))]; exact h.map
    file := fun e he => by rw [Mem.set_ne _ _ (ne (h.file e he) (by simp [fileObj, storeObj]))]; exact h.file e he
    row := fun e he => (h.row e he).set_other _ (rne (h.row e he) (by decide))
    fails := Row.set_other h.fails _ (rne h.fails (by decide))
    opens := h.opens.set_other _ (rne h.opens (by decide))
    hnd := fun k hk => by rw [Mem.set_ne _ _ (ne (h.hnd k hk) (by simp [hndObj, storeObj]))]; exact h.hnd k hk }

/-- How many are open. -/
def nOpen (O : List (Option Hnd)) : Nat := (O.filter Option.isSome).length
theorem nOpen_snoc (O : List (Option Hnd)) (x : Option Hnd) : nOpen (O ++ [x]) = nOpen O + if x.isSome then 1 else 0 := by
  cases x <;> simp [nOpen]
theorem nOpen_le (O : List (Option Hnd)) : nOpen O ≤ O.length := List.length_filter_le _ _

set_option maxHeartbeats 400000 in
theorem many_same (sb : Nat) (g : G) (w : World) (m : Mem) (hm : Has w m) (hr : SRep m sb g) :
    Calls Tryz.prog 27 #[.pointer (some ⟨sb, 0, none⟩)] w fun e w' => e = .returned (.int .i64 (nOpen g.O)) ∧ w' = w := by
  obtain ⟨oa, oc, ho, hoc⟩ := hr.opens.lenV
  have c2 : w.cell? ⟨sb, 2, none⟩ = some (.slice oa g.O.length oc) := by rw [hm.cell hr.store, ← ho]; rfl
  have hlen := hr.olen
  have H := Lib.hid hm
  have HR := Lib.hid hr
  have HO := Lib.hid ho
  clear hm hr ho
  go_enter Tryz.func27, Tryz.ntmps27
  go_wp2_with fail
  go_loop [3, 11] (fun t i => ∃ k : Nat, k ≤ g.O.length ∧ i = .int .i64 k ∧ t = .int .i64 (nOpen (g.O.take k))) (fun _ i => g.O.length - (intOf i).toNat)
  case atStart => exact ⟨0, Nat.zero_le _, rfl, rfl⟩
  case round =>
    obtain ⟨k, hk, rfl, rfl⟩ := hrel
    have hcnt : nOpen (g.O.take k) ≤ k := Nat.le_trans (nOpen_le _) (List.length_take_le _ _)
    by_cases hlt : k < g.O.length
    · obtain ⟨ob, hoa⟩ : ∃ ob, oa = some ⟨ob, 0, none⟩ := by
        have h1 := HR.out.opens
        rw [HO.out] at h1
        rcases h1.2 with ⟨_, h⟩ | ⟨gg, cap, cur, fz, h, _⟩
        · omega
        · simp only [Value.slice.injEq] at h; exact ⟨gg, h.1⟩
      subst hoa
      have e0 : w.cell? ⟨ob, k, none⟩ = some (hndV g.O[k]) := by
        have h1 := HR.out.opens
        rw [HO.out] at h1
        rw [h1.cell H.out (by omega)]
        simp [hlt]
      have SN := Lib.hid (nOpen_snoc (g.O.take k) g.O[k])
      have TS : Hid (g.O.take (k + 1) = g.O.take k ++ [g.O[k]]) := by show _ = _; rw [List.take_succ_eq_append_getElem hlt]
      cases hx : g.O[k] with
      | none =>
        rw [hx] at e0
        have HX := Lib.hid hx
        clear hx
        simp only [hndV] at e0
        go_wp2_with fail
        go_round
        case rel => exact ⟨k + 1, by omega, by go_num, by rw [TS.out, SN.out, HX.out]; rfl⟩
        case measure => simp [intOf]; omega
      | some h =>
        rw [hx] at e0
        have HX := Lib.hid hx
        clear hx
        simp only [hndV] at e0
        go_wp2_with fail
        go_round
        case rel => exact ⟨k + 1, by omega, by go_num, by rw [TS.out, SN.out, HX.out]; go_num⟩
        case measure => simp [intOf]; omega
    · have TL := Lib.hid (show g.O.take k = g.O from List.take_of_length_le (by omega))
      go_wp2_with fail
      go_ret
      exact ⟨by rw [TL.out]; rfl, rfl⟩

theorem many_any (sb : Nat) (g : G) (w : World) (m : Mem) (hm : Has w m) (hr : SRep m sb g) :
    Calls Tryz.prog 27 #[.pointer (some ⟨sb, 0, none⟩)] w (Post w m fun v _ => v = .int .i64 (nOpen g.O)) :=
  (many_same sb g w m hm hr).mono fun _ _ ⟨he, hw⟩ => by subst he; subst hw; exact Post.mk m (Mem.le_refl _) hm (Env.refl _) rfl
end Go.Proofs.YtcdmdkgiabfbeaaGreatDoor

/-
  first: the first refusal of some checks.
-/
namespace Go.Proofs.YtcdmdkgiabfbeaaGreatDoor
open Go.RowKit

/-- What first answers: x0, if it is a refusal already; else the first that a check gives. -/
def firstOf (x0 : Int) : List (Value × Int × Bool) → Int
  | [] => x0
  | c :: cs => firstOf (if x0 = 0 then (if c.2.2 then c.2.1 else 0) else x0) cs

theorem firstOf_snoc (x0 : Int) (cs : List (Value × Int × Bool)) (c : Value × Int × Bool) :
    firstOf x0 (cs ++ [c]) = if firstOf x0 cs = 0 then (if c.2.2 then c.2.1 else 0) else firstOf x0 cs := by
  induction cs generalizing x0 with
  | nil => rfl
  | cons d cs ih => simp only [List.cons_append, firstOf]; exact ih _

theorem take_snoc {α : Type} (l : List α) (k : Nat) (h : k < l.length) : l.take (k + 1) = l.take k ++ [l[k]] := by
  rw [List.take_succ_eq_append_getElem h]

set_option maxHeartbeats 400000 in
theorem first_any (ev : Value) (x0 : Int) (b : Nat) (cs : List (Value × Int × Bool)) (w : World) (m : Mem) (hm : Has w m) (hev : ErrIs m ev x0)
    (hb : m b = some (.cells (cs.map (·.1)).toArray 74 (0, 0))) (hcs : ∀ c ∈ cs, IsCheck m c.1 c.2.1 c.2.2 ∧ c.2.1 ≠ 0) (hn : cs.length ≤ 100) :
    Calls Tryz.prog 28 #[ev, .slice (some ⟨b, 0, none⟩) cs.length cs.length] w (Post w m fun v m' => ErrIs m' v (firstOf x0 cs)) := by
  have H := Lib.hid hm
  have HE := Lib.hid hev
  have HB := Lib.hid hb
  have HC := Lib.hid hcs
  clear hm hev hb hcs
  go_enter Tryz.func28, Tryz.ntmps28
  go_wp2_with fail
  go_loopw [0, 9] (fun e i wr => ∃ k : Nat, k ≤ cs.length ∧ i = .int .i64 k ∧ ∃ mr, m.le mr ∧ Has wr mr ∧ Env w wr ∧ ErrIs mr e (firstOf x0 (cs.take k))) (fun _ i _ => cs.length - (intOf i).toNat)
  case atStart => exact ⟨0, Nat.zero_le _, rfl, m, Mem.le_refl _, H.out, Env.refl _, by simpa [firstOf] using HE.out⟩
  case round =>
    obtain ⟨k, hk, rfl, mr, lr, hr, nr, er⟩ := hrel
    have LR := Lib.hid lr
    have HR := Lib.hid hr
    have NR := Lib.hid nr
    have ER := Lib.hid er
    clear lr hr nr er
    by_cases hlt : k < cs.length
    · have c0 : wr.cell? ⟨b, k, none⟩ = some cs[k].1 := by rw [HR.out.cell (LR.out _ _ HB.out)]; simp [hlt]
      have hck := HC.out cs[k] (List.getElem_mem hlt)
      have EQ := Lib.hid (firstOf_snoc x0 (cs.take k) cs[k])
      have TS := Lib.hid (take_snoc cs k hlt)
      obtain ⟨⟨p, q, is, hcv, hp, hq, hi⟩, hx0⟩ := hck
      rw [hcv] at c0
      have HP := Lib.hid hp
      have HQ := Lib.hid hq
      have HI := Lib.hid hi
      have HX := Lib.hid hx0
      have HCV := Lib.hid hcv
      clear hp hq hi hx0 hcv
      rcases ER.out with ⟨h0, h1⟩ | ⟨h0, be, h1, h2⟩
      · subst h1
        have H0 := Lib.hid h0
        clear h0
        go_wp2_with fail
        refine (when1_any p q is _ _ wr mr HR.out (LR.out _ _ HP.out) (LR.out _ _ HQ.out) (HI.out.le LR.out) HX.out).mono ?_
        rintro e w2 ⟨v, m2, rfl, l2, h2, n2, hv⟩
        have L2 := Lib.hid l2
        have H2 := Lib.hid h2
        have N2 := Lib.hid n2
        have HV := Lib.hid hv
        clear l2 h2 n2 hv
        go_wp2_with fail
        go_roundw
        case rel => exact ⟨k + 1, by omega, by go_num, m2, Mem.le_trans LR.out L2.out, H2.out, NR.out.trans N2.out, by rw [TS.out, EQ.out, if_pos H0.out]; exact HV.out⟩
        case measure => simp [intOf]; omega
      · subst h1
        have H0 := Lib.hid h0
        have H2 := Lib.hid h2
        clear h0 h2
        go_wp2_with fail
        go_roundw
        case rel => exact ⟨k + 1, by omega, by go_num, mr, LR.out, HR.out, NR.out, by rw [TS.out, EQ.out, if_neg H0.out]; exact .inr ⟨H0.out, be, rfl, H2.out⟩⟩
        case measure => simp [intOf]; omega
    · have hkl : k = cs.length := by omega
      have TL := Lib.hid (show cs.take k = cs from by rw [hkl]; simp)
      clear hkl
      go_wp2_with fail
      go_ret
      exact Post.mk mr LR.out HR.out NR.out (by have := ER.out; rw [TL.out] at this; exact this)
end Go.Proofs.YtcdmdkgiabfbeaaGreatDoor

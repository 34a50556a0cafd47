/-
  The document's operations: op, is, begun, free, used, count, mode.
-/
import Derived.Test.YtcdmdkgiabfbeaaGreatDoorK17
import Derived.Test.YtcdmdkgiabfbeaaGreatDoorK13
import Derived.Deep.RegionHeld3
import Derived.Lib.SlBytesConst
namespace Go.Proofs.YtcdmdkgiabfbeaaGreatDoor
open Go.RowKit

set_option maxHeartbeats 1000000 in
theorem op_ref (rb : Nat) (r : RG) (w : World) (m : Mem) (hm : Has w m) (hr : RRep m rb r) (hn : r.n ≤ 999999) :
    Calls Tryz.prog 88 #[.pointer (some ⟨rb, 0, none⟩)] w fun e w' => e = .returned (.int .i64 r.now.2.1) ∧ Has w' (m.set rb (rstoreObj r.tick)) ∧ Env w w' := by
  have hf := hr.fails
  have hs := hr.store
  have hxl := hr.xlen
  obtain ⟨fa, fc, hxv, hfc⟩ := hf.lenV
  have c2 : w.cell? ⟨rb, 2, none⟩ = some (.slice fa r.X.length fc) := by rw [hm.cell hs, ← hxv]; rfl
  have c3 : w.cell? ⟨rb, 3, none⟩ = some (.int .i64 r.n) := by rw [hm.cell hs]; rfl
  have c4 : w.cell? ⟨rb, 4, none⟩ = some (.int .i64 r.go.1) := by rw [hm.cell hs]; rfl
  have c5 : w.cell? ⟨rb, 5, none⟩ = some (.int .i64 r.go.2.1) := by rw [hm.cell hs]; rfl
  have c6 : w.cell? ⟨rb, 6, none⟩ = some (.int .i64 r.go.2.2) := by rw [hm.cell hs]; rfl
  have fz : ∀ j, w.frozen? ⟨rb, j, none⟩ = false := fun j => hm.froz hs
  have hlt := hm.lt hs
  have H := Lib.hid hm
  have HS := Lib.hid hs
  have HF := Lib.hid hf
  have HXV := Lib.hid hxv
  clear hm hs hf hxv hr
  go_enter Tryz.func88, Tryz.ntmps88
  go_wp2_with fail
  have k0 := (((H.out.storeTo (off := 3) (c' := #[r.fv, r.ov, r.xv, .int .i64 (r.n + 1), .int .i64 r.go.1, .int .i64 r.go.2.1, .int .i64 r.go.2.2]) HS.out (.int .i64 (r.n + 1)) (by simp)).storeTo (off := 4) (c' := #[r.fv, r.ov, r.xv, .int .i64 (r.n + 1), .int .i64 0, .int .i64 r.go.2.1, .int .i64 r.go.2.2]) (Mem.set_same _ _ _) (.int .i64 0) (by simp)).storeTo (off := 5) (c' := #[r.fv, r.ov, r.xv, .int .i64 (r.n + 1), .int .i64 0, .int .i64 0, .int .i64 r.go.2.2]) (Mem.set_same _ _ _) (.int .i64 0) (by simp)).storeTo (off := 6) (c' := #[r.fv, r.ov, r.xv, .int .i64 (r.n + 1), .int .i64 0, .int .i64 0, .int .i64 0]) (Mem.set_same _ _ _) (.int .i64 0) (by simp)
  rw [Mem.set_set, Mem.set_set, Mem.set_set] at k0
  refine wp_opaque w (m.set rb (.cells #[r.fv, r.ov, r.xv, .int .i64 (r.n + 1), .int .i64 0, .int .i64 0, .int .i64 0] 58 (0, 0))) k0 (((((Env.refl w).setCell _ _).setCell _ _).setCell _ _).setCell _ _) ?_
  intro w1 h1m h1e
  have HM1 := Lib.hid h1m
  have HE1 := Lib.hid h1e
  clear h1m h1e k0 c2 c3 c4 c5 c6 fz hlt
  obtain ⟨m1, hm1⟩ : ∃ m1, m.set rb (.cells #[r.fv, r.ov, r.xv, .int .i64 (r.n + 1), .int .i64 0, .int .i64 0, .int .i64 0] 58 (0, 0)) = m1 := ⟨_, rfl⟩
  have S1 : Hid (m1 rb = some (.cells #[r.fv, r.ov, .slice fa r.X.length fc, .int .i64 (r.n + 1), .int .i64 0, .int .i64 0, .int .i64 0] 58 (0, 0))) := Lib.hid (by rw [← hm1, Mem.set_same, HXV.out])
  have HF1 : Hid (Row m1 (.slice fa r.X.length fc) 47 3 r.X.length (r.X.flatMap failCells)) := Lib.hid (by
    rw [← hm1, ← HXV.out]; exact Row.set_other HF.out _ (HF.out.notOwn (e' := 58) HS.out (by decide)))
  rw [hm1] at HM1
  have HMM := Lib.hid hm1
  clear hm1
  go_loopw [3] (fun i wr => ∃ k : Nat, k ≤ r.X.length ∧ i = .int .i64 k ∧ Hid (Has wr m1) ∧ Hid (Env w wr) ∧ Hid (∀ j (hj : j < r.X.length), j < k → r.X[j].1 ≠ r.n + 1)) (fun i _ => r.X.length - (intOf i).toNat)
  case atStart => exact ⟨0, Nat.zero_le _, rfl, HM1, HE1, fun j _ hj => by omega⟩
  case round =>
    obtain ⟨k, hk, rfl, HR, HE, HN⟩ := hrel
    have d2 : wr.cell? ⟨rb, 2, none⟩ = some (.slice fa r.X.length fc) := by rw [HR.out.cell S1.out]; rfl
    have d3 : wr.cell? ⟨rb, 3, none⟩ = some (.int .i64 (r.n + 1)) := by rw [HR.out.cell S1.out]; rfl
    have d4 : wr.cell? ⟨rb, 4, none⟩ = some (.int .i64 0) := by rw [HR.out.cell S1.out]; rfl
    have d5 : wr.cell? ⟨rb, 5, none⟩ = some (.int .i64 0) := by rw [HR.out.cell S1.out]; rfl
    have d6 : wr.cell? ⟨rb, 6, none⟩ = some (.int .i64 0) := by rw [HR.out.cell S1.out]; rfl
    have fz : ∀ j, wr.frozen? ⟨rb, j, none⟩ = false := fun j => HR.out.froz S1.out
    have hlt := HR.out.lt S1.out
    by_cases hltk : k < r.X.length
    · obtain ⟨fb, cap, cur, fz', hv, hg, _, _, _, _, ht⟩ : ∃ fb cap cur fz, Value.slice fa r.X.length fc = .slice (some ⟨fb, 0, none⟩) r.X.length cap ∧ m1 fb = some (.cells cur 47 fz) ∧ Thaw cur fz ∧ r.X.length ≤ cap ∧ cap ≤ maxLen ∧ cap * 3 ≤ cur.size ∧ cur.toList.take (r.X.length * 3) = r.X.flatMap failCells := by
        rcases HF1.out.2 with ⟨_, h⟩ | h
        · omega
        · exact h
      obtain ⟨g0, g1, g2⟩ := failCells_get r.X k hltk
      have hcell : ∀ j v, j < r.X.length * 3 → (r.X.flatMap failCells)[j]? = some v → wr.cell? ⟨fb, j, none⟩ = some v := fun j v hj h => by
        rw [HR.out.cell hg, ← h, ← ht, List.getElem?_take, if_pos hj]; simp
      have e0 := hcell _ _ (by omega) g0
      have e1 := hcell _ _ (by omega) g1
      have e2 := hcell _ _ (by omega) g2
      have flt : fb < wr.heap.size := HR.out.lt hg
      obtain ⟨⟨x, y, z⟩, hf⟩ : ∃ f, f = r.X[k] := ⟨_, rfl⟩
      rw [← hf] at e0 e1 e2
      simp only [Value.slice.injEq] at hv
      obtain ⟨rfl, _, rfl⟩ := hv
      have HFK := Lib.hid hf
      clear hf hg ht hcell g0 g1 g2
      by_cases hx : x = r.n + 1
      · have hb : (x == (r.n : Int) + 1) = true := by simpa using hx
        have HX := Lib.hid hx
        clear hx
        have FA : Hid (r.now = (x, y, z)) := by
          show failAt r.X (r.n + 1) = _
          rw [HFK.out]
          exact failAt_some k hltk (by rw [← HFK.out]; exact HX.out) (fun j hj => HN.out j (by omega) hj)
        go_wp2_with fail
        go_quiet (fail)
        go_wp2_with fail
        go_ret
        refine ⟨by rw [FA.out]; rfl, ?_, (((HE.out.drewN nq).setCell _ _).setCell _ _).setCell _ _⟩
        have k1 := ((((HR.out.drewN nq).storeTo (off := 4) (c' := #[r.fv, r.ov, .slice (some ⟨fb, 0, none⟩) r.X.length fc, .int .i64 (r.n + 1), .int .i64 x, .int .i64 0, .int .i64 0]) S1.out (.int .i64 x) (by simp)).storeTo (off := 5) (c' := #[r.fv, r.ov, .slice (some ⟨fb, 0, none⟩) r.X.length fc, .int .i64 (r.n + 1), .int .i64 x, .int .i64 y, .int .i64 0]) (Mem.set_same _ _ _) (.int .i64 y) (by simp)).storeTo (off := 6) (c' := #[r.fv, r.ov, .slice (some ⟨fb, 0, none⟩) r.X.length fc, .int .i64 (r.n + 1), .int .i64 x, .int .i64 y, .int .i64 z]) (Mem.set_same _ _ _) (.int .i64 z) (by simp))
        rw [Mem.set_set, Mem.set_set, ← HMM.out, Mem.set_set] at k1
        unfold rstoreObj RG.tick
        rw [FA.out, HXV.out]
        exact k1
      · have hb : (x == (r.n : Int) + 1) = false := by simpa using hx
        have HX := Lib.hid hx
        clear hx
        go_wp2_with fail
        go_quiet (fail)
        go_wp2_with fail
        go_roundw
        case rel =>
          refine ⟨k + 1, by omega, by go_num, Lib.hid (HR.out.drewN nq), Lib.hid (HE.out.drewN nq), Lib.hid (fun j hj hk1 => ?_)⟩
          rcases Nat.lt_or_ge j k with h | h
          · exact HN.out j hj h
          · have : j = k := by omega
            subst this
            rw [← HFK.out]; exact HX.out
        case measure => simp [intOf]; omega
    · have hkl : k = r.X.length := by omega
      have FA : Hid (r.now = (0, 0, 0)) := Lib.hid (failAt_none fun f hf => by
        obtain ⟨j, hj, rfl⟩ := List.getElem_of_mem hf
        exact HN.out j hj (by rw [hkl]; exact hj))
      clear hkl
      go_wp2_with fail
      go_ret
      refine ⟨by rw [FA.out]; rfl, ?_, HE.out⟩
      have hm1 := HR.out
      rw [← HMM.out] at hm1
      unfold rstoreObj RG.tick
      rw [FA.out]
      exact hm1

/-- The open files' cells, in a world. -/
theorem RRep.atO {m : Mem} {rb : Nat} {r : RG} (h : RRep m rb r) : ∃ ob cap, r.ov = .slice (some ⟨ob, 0, none⟩) 33 cap ∧ ∀ w : World, Has w m → w.cell? ⟨rb, 1, none⟩ = some (.slice (some ⟨ob, 0, none⟩) 33 cap) ∧ ob < w.heap.size ∧
    ∀ (k : Nat) (o : RO), r.O[k]? = some o → w.cell? ⟨ob, k * 3, none⟩ = some (.int .i64 o.file) ∧ w.cell? ⟨ob, k * 3 + 1, none⟩ = some (.int .i64 o.mode) ∧ w.cell? ⟨ob, k * 3 + 2, none⟩ = some (.int .i64 o.pos) := by
  obtain ⟨_, ⟨_, h0⟩ | ⟨ob, cap, cur, fz, hv, hg, _, hn, hc, hcs, ht⟩⟩ := h.opens
  · omega
  · refine ⟨ob, cap, hv, fun w hm => ⟨by rw [hm.cell h.store, ← hv]; rfl, hm.lt hg, fun k o hk => ?_⟩⟩
    obtain ⟨g0, g1, g2⟩ := ro_get r.O hk
    have hkl := (List.getElem?_eq_some_iff.1 hk).1
    rw [h.olen] at hkl
    have key : ∀ j v, j < 33 * 3 → (r.O.flatMap roCells)[j]? = some v → w.cell? ⟨ob, j, none⟩ = some v := fun j v hj hv => by
      rw [hm.cell hg, ← hv, ← ht, List.getElem?_take, if_pos hj]; simp
    exact ⟨key _ _ (by omega) g0, key _ _ (by omega) g1, key _ _ (by omega) g2⟩

theorem mode_ref (x : Int) (w : World) : Calls Tryz.prog 89 #[.int .i64 x] w fun e w' => e = .returned (.bool (modeB x)) ∧ w' = w := by
  by_cases h1 : 1 ≤ x
  · by_cases h2 : x ≤ 3
    · go_enter Tryz.func89, Tryz.ntmps89
      go_wp2_with fail
      go_ret
      exact ⟨ret_bool (by unfold modeB; simp; omega), rfl⟩
    · go_enter Tryz.func89, Tryz.ntmps89
      go_wp2_with fail
      go_ret
      exact ⟨ret_bool (by unfold modeB; simp; omega), rfl⟩
  · go_enter Tryz.func89, Tryz.ntmps89
    go_wp2_with fail
    go_ret
    exact ⟨ret_bool (by unfold modeB; simp; omega), rfl⟩

theorem RR.hnd {m : Mem} {rb : Nat} {r : RG} (h : RR m rb r) (i : Nat) (o : RO) (hi : r.O[i + 1]? = some o) : (r.abs.hnd i).isNone = decide (o.file = 0) := by
  have he : r.abs.hnd i = roAbs r.F o := by show (r.O[i + 1]?).bind _ = _; rw [hi]; rfl
  rw [he]
  unfold roAbs
  by_cases h0 : o.file = 0
  · rw [if_pos h0]; simp [h0]
  · rw [if_neg h0]
    rcases h.rep.ofile o (List.mem_of_getElem? hi) with h1 | ⟨f, h1, _⟩
    · exact absurd h1 h0
    · rw [h1]; simp [h0]

set_option maxHeartbeats 1000000 in
theorem free_ref (rb : Nat) (r : RG) (w : World) (m : Mem) (hm : Has w m) (hr : RR m rb r) :
    Calls Tryz.prog 90 #[.pointer (some ⟨rb, 0, none⟩)] w fun e w' => ∃ n : Nat, e = .returned (.int .i64 n) ∧ w' = w ∧ ((n = 0 ∧ r.abs.free = none) ∨ (1 ≤ n ∧ n ≤ 32 ∧ r.abs.free = some (n - 1))) := by
  obtain ⟨ob, cap, hov, hat⟩ := hr.rep.atO
  obtain ⟨c1, olt, hat⟩ := hat w hm
  have hol := hr.rep.olen
  have AT := Lib.hid hat
  have HR := Lib.hid hr
  clear hm hat hov hr
  go_enter Tryz.func90, Tryz.ntmps90
  go_wp2_with fail
  go_loop [3] (fun i => ∃ k : Nat, 1 ≤ k ∧ k ≤ 33 ∧ i = .int .i64 k ∧ Hid (∀ (j : Nat) (o : RO), 1 ≤ j → j < k → r.O[j]? = some o → o.file ≠ 0)) (fun i => 34 - (intOf i).toNat)
  case atStart => exact ⟨1, Nat.le_refl _, by omega, rfl, Lib.hid (fun j o h1 h2 => by omega)⟩
  case round =>
    obtain ⟨k, hk1, hk2, rfl, HN⟩ := hrel
    by_cases hlt : k ≤ 32
    · obtain ⟨e0, _⟩ := AT.out k _ (List.getElem?_eq_getElem (by omega : k < r.O.length))
      obtain ⟨o, ho⟩ : ∃ o, r.O[k]? = some o := ⟨_, List.getElem?_eq_getElem (by omega)⟩
      have ho' : r.O[k] = o := (List.getElem?_eq_some_iff.1 ho).2
      rw [ho'] at e0
      have HO := Lib.hid ho
      clear ho ho'
      obtain ⟨fl, hfl⟩ : ∃ fl, o.file = fl := ⟨_, rfl⟩
      rw [hfl] at e0
      have HFL := Lib.hid hfl
      clear hfl
      by_cases h0 : fl = 0
      · subst h0
        go_wp2_with fail
        go_ret
        refine ⟨k, rfl, rfl, .inr ⟨hk1, hlt, ?_⟩⟩
        unfold A.free
        rw [List.find?_eq_some_iff_getElem]
        refine ⟨?_, k - 1, by simp; omega, by simp, fun j hj => ?_⟩
        · rw [HR.out.hnd (k - 1) o (by rw [show k - 1 + 1 = k from by omega]; exact HO.out), HFL.out]; rfl
        · rw [List.getElem_range, HR.out.hnd j r.O[j + 1] (List.getElem?_eq_getElem (by omega))]
          have := HN.out (j + 1) _ (by omega) (by omega) (List.getElem?_eq_getElem (by omega : j + 1 < r.O.length))
          simpa using this
      · have hb : ((fl : Int) == 0) = false := by simpa using h0
        go_wp2_with fail
        go_round
        case rel =>
          refine ⟨k + 1, by omega, by omega, by go_num, Lib.hid (fun j o' h1 h2 ho' => ?_)⟩
          rcases Nat.lt_or_ge j k with h | h
          · exact HN.out j o' h1 h ho'
          · obtain rfl : j = k := by omega
            rw [HO.out] at ho'
            obtain rfl := Option.some.inj ho'
            rw [HFL.out]; exact h0
        case measure => simp [intOf]; omega
    · go_wp2_with fail
      go_ret
      refine ⟨0, rfl, rfl, .inl ⟨rfl, ?_⟩⟩
      unfold A.free
      rw [List.find?_eq_none]
      intro j hj
      have hj' := List.mem_range.1 hj
      rw [HR.out.hnd j r.O[j + 1] (List.getElem?_eq_getElem (by omega))]
      have := HN.out (j + 1) _ (by omega) (by omega) (List.getElem?_eq_getElem (by omega : j + 1 < r.O.length))
      simpa using this

def UsedR (r : RG) (fn : Nat) (b : Bool) : Prop := b = true ↔ ∃ i o, 1 ≤ i ∧ i ≤ 32 ∧ r.O[i]? = some o ∧ o.file = fn
def UsedP (r : RG) (fn : Nat) (w : World) (e : Ending) (w' : World) : Prop := ∃ b, e = .returned (.bool b) ∧ w' = w ∧ UsedR r fn b

set_option maxHeartbeats 1000000 in
theorem used_ref (rb : Nat) (r : RG) (fn : Nat) (w : World) (m : Mem) (hm : Has w m) (hr : RR m rb r) :
    Calls Tryz.prog 93 #[.pointer (some ⟨rb, 0, none⟩), .int .i64 fn] w (UsedP r fn w) := by
  obtain ⟨ob, cap, hov, hat⟩ := hr.rep.atO
  obtain ⟨c1, olt, hat⟩ := hat w hm
  have hol := hr.rep.olen
  have AT := Lib.hid hat
  clear hm hat hov hr
  go_enter Tryz.func93, Tryz.ntmps93
  go_wp2_with fail
  go_loop [5] (fun i => ∃ k : Nat, 1 ≤ k ∧ k ≤ 33 ∧ i = .int .i64 k ∧ Hid (∀ (j : Nat) (o : RO), 1 ≤ j → j < k → r.O[j]? = some o → o.file ≠ fn)) (fun i => 34 - (intOf i).toNat)
  case atStart => exact ⟨1, Nat.le_refl _, by omega, rfl, Lib.hid (fun j o h1 h2 => by omega)⟩
  case round =>
    obtain ⟨k, hk1, hk2, rfl, HN⟩ := hrel
    by_cases hlt : k ≤ 32
    · obtain ⟨e0, _⟩ := AT.out k _ (List.getElem?_eq_getElem (by omega : k < r.O.length))
      obtain ⟨o, ho⟩ : ∃ o, r.O[k]? = some o := ⟨_, List.getElem?_eq_getElem (by omega)⟩
      have ho' : r.O[k] = o := (List.getElem?_eq_some_iff.1 ho).2
      rw [ho'] at e0
      have HO := Lib.hid ho
      clear ho ho'
      obtain ⟨fl, hfl⟩ : ∃ fl, o.file = fl := ⟨_, rfl⟩
      rw [hfl] at e0
      have HFL := Lib.hid hfl
      clear hfl
      by_cases h0 : fl = fn
      · have hb : ((fl : Int) == (fn : Int)) = true := by rw [beq_iff_eq]; omega
        go_wp2_with fail
        go_ret
        exact ⟨true, rfl, rfl, ⟨fun _ => ⟨k, o, hk1, hlt, HO.out, by rw [HFL.out]; exact h0⟩, fun _ => rfl⟩⟩
      · have hb : ((fl : Int) == (fn : Int)) = false := by rw [beq_eq_false_iff_ne]; omega
        go_wp2_with fail
        go_round
        case rel =>
          refine ⟨k + 1, by omega, by omega, by go_num, Lib.hid (fun j o' h1 h2 ho' => ?_)⟩
          rcases Nat.lt_or_ge j k with h | h
          · exact HN.out j o' h1 h ho'
          · obtain rfl : j = k := by omega
            rw [HO.out] at ho'
            obtain rfl := Option.some.inj ho'
            rw [HFL.out]; exact h0
        case measure => simp [intOf]; omega
    · go_wp2_with fail
      go_ret
      refine ⟨false, ret_bool (by simp; try omega), rfl, ⟨fun h => (by cases h), ?_⟩⟩
      rintro ⟨i, o, h1, h2, h3, h4⟩
      exact absurd h4 (HN.out i o h1 (by omega) h3)

theorem cnt_take {F : List RF} {k : Nat} (hk : k < F.length) : ((F.take (k + 1)).filter neB).length = ((F.take k).filter neB).length + if F[k].name = ⟨#[]⟩ then 0 else 1 := by
  rw [List.take_succ_eq_append_getElem hk, List.filter_append, List.length_append]
  congr 1
  unfold neB
  by_cases h : F[k].name = ⟨#[]⟩
  · simp [h]
  · simp [h]
theorem toList_nil {s : ByteArray} (h : s.toList = []) : s = ⟨#[]⟩ := toList_inj (by rw [h, ByteArray.toList_eq])

set_option maxHeartbeats 1000000 in
theorem count_ref (rb : Nat) (r : RG) (w : World) (m : Mem) (hm : Has w m) (hr : RRep m rb r) (hn : r.n ≤ 999999) :
    Calls Tryz.prog 91 #[.pointer (some ⟨rb, 0, none⟩)] w fun e w' => e = .returned (.int .i64 r.abs.count) ∧ w' = w := by
  obtain ⟨fb, cap, hfv, hat0⟩ := hr.at hm
  clear hat0
  obtain ⟨c0, hflt, hat⟩ := hr.at' hm hfv
  have hfl := hr.flen
  have HHD := Lib.hid hr.head
  have AT := Lib.hid hat
  clear hm hat hfv hr
  go_enter Tryz.func91, Tryz.ntmps91
  go_wp2_with fail
  go_loop [3, 4] (fun n i => ∃ k : Nat, 1 ≤ k ∧ k ≤ r.F.length ∧ i = .int .i64 k ∧ n = .int .i64 ((r.F.take k).filter neB).length) (fun _ i => r.F.length + 1 - (intOf i).toNat)
  case atStart =>
    obtain ⟨f, F', hF, hnm⟩ := HHD.out
    refine ⟨1, Nat.le_refl _, by rw [hF]; simp, rfl, ?_⟩
    rw [hF]
    simp [neB, hnm]
  case round =>
    obtain ⟨k, hk1, hkl, rfl, rfl⟩ := hrel
    by_cases hlt : k < r.F.length
    · obtain ⟨e0, _⟩ := AT.out k hlt
      obtain ⟨nm, hnm⟩ : ∃ nm, r.F[k].name = nm := ⟨_, rfl⟩
      have hct := cnt_take hlt
      rw [hnm] at e0 hct
      have hcl : ((r.F.take k).filter neB).length ≤ k := Nat.le_trans (List.length_filter_le _ _) (by simp; omega)
      obtain ⟨c, hc⟩ : ∃ c, ((r.F.take k).filter neB).length = c := ⟨_, rfl⟩
      rw [hc] at hct hcl
      rw [hc]
      have HCT := Lib.hid hct
      clear hnm hct hc
      by_cases hem : nm.toList = []
      · have hie : nm.toList.isEmpty = true := by rw [hem]; rfl
        go_wp2_with fail
        go_round
        case rel => exact ⟨k + 1, by omega, by omega, by go_num, by rw [HCT.out, if_pos (toList_nil hem)]; rfl⟩
        case measure => simp [intOf]; omega
      · have hie : nm.toList.isEmpty = false := by simpa using hem
        go_wp2_with fail
        go_round
        case rel => exact ⟨k + 1, by omega, by omega, by go_num, by rw [HCT.out, if_neg (fun h => hem (by rw [h, ByteArray.toList_eq]))]; go_num⟩
        case measure => simp [intOf]; omega
    · have hkk : k = r.F.length := by omega
      subst hkk
      rw [List.take_length]
      obtain ⟨c, hc⟩ : ∃ c, (r.F.filter neB).length = c := ⟨_, rfl⟩
      have HC : Hid (r.abs.count = c) := Lib.hid hc
      rw [hc]
      clear hc
      go_wp2_with fail
      go_ret
      exact ⟨by rw [HC.out]; rfl, rfl⟩

set_option maxHeartbeats 1000000 in
theorem is_ref (rb : Nat) (r : RG) (id : Int) (w : World) (m : Mem) (hm : Has w m) (hr : RR m rb r) :
    Calls Tryz.prog 110 #[.pointer (some ⟨rb, 0, none⟩), .int .i64 id] w fun e w' => e = .returned (.bool (r.abs.got id).isSome) ∧ w' = w := by
  obtain ⟨ob, cap, hov, hat⟩ := hr.rep.atO
  obtain ⟨c1, olt, hat⟩ := hat w hm
  have hol := hr.rep.olen
  have AT := Lib.hid hat
  have HR := Lib.hid hr
  clear hm hat hov hr
  have hno : ¬ (1 ≤ id ∧ id ≤ 32) → (r.abs.got id).isSome = false := fun h => by unfold A.got; rw [if_neg h]; rfl
  by_cases h1 : 1 ≤ id
  · by_cases h2 : id ≤ 32
    · obtain ⟨k, rfl⟩ : ∃ k : Nat, id = k := ⟨id.toNat, by omega⟩
      obtain ⟨o, ho, _, hg⟩ := HR.out.got k (by omega) (by omega)
      obtain ⟨e0, _⟩ := AT.out k o ho
      obtain ⟨fl, hfl⟩ : ∃ fl, o.file = fl := ⟨_, rfl⟩
      rw [hfl] at e0
      rw [hfl] at hg
      have HG := Lib.hid hg
      clear hno ho hg hfl
      obtain ⟨gb, hgb⟩ : ∃ gb, (r.abs.got k).isSome = gb := ⟨_, rfl⟩
      rw [hgb]
      have HGB := Lib.hid hgb
      clear hgb
      by_cases h0 : fl = 0
      · subst h0
        go_enter Tryz.func110, Tryz.ntmps110
        go_wp2_with fail
        go_ret
        refine ⟨?_, rfl⟩
        rw [← HGB.out]
        rcases HG.out with ⟨_, hg⟩ | ⟨h, _⟩
        · rw [hg]; rfl
        · exact absurd rfl h
      · have hb : (0 : Int) < fl := by omega
        go_enter Tryz.func110, Tryz.ntmps110
        go_wp2_with fail
        go_ret
        refine ⟨?_, rfl⟩
        rw [← HGB.out]
        rcases HG.out with ⟨h, _⟩ | ⟨_, f, _, _, hg⟩
        · exact absurd h h0
        · rw [hg]; exact ret_bool (by simp; try omega)
    · have HNO := Lib.hid (hno (fun c => h2 c.2))
      clear hno
      go_enter Tryz.func110, Tryz.ntmps110
      go_wp2_with fail
      go_ret
      exact ⟨by rw [HNO.out]; exact ret_bool (by simp; try omega), rfl⟩
  · have HNO := Lib.hid (hno (fun c => h1 c.1))
    clear hno
    go_enter Tryz.func110, Tryz.ntmps110
    go_wp2_with fail
    go_ret
    exact ⟨by rw [HNO.out]; exact ret_bool (by simp; try omega), rfl⟩

def begX (a : A) (id : Int) : Int := if a.now.2.1 ≠ 0 then a.now.2.1 else if (a.got id).isSome then 0 else -37

set_option maxHeartbeats 1000000 in
theorem begun_ref (rb : Nat) (r : RG) (id : Int) (w : World) (m : Mem) (hm : Has w m) (hr : RR m rb r) (hn : r.n ≤ 999999) :
    Calls Tryz.prog 92 #[.pointer (some ⟨rb, 0, none⟩), .int .i64 id] w fun e w' => e = .returned (.int .i64 (begX r.abs id)) ∧ Has w' (m.set rb (rstoreObj r.tick)) ∧ Env w w' := by
  have HOP := Lib.hid (op_ref rb r w m hm hr.rep hn)
  have HRT := Lib.hid hr.tick
  clear hm hr hn
  go_enter Tryz.func92, Tryz.ntmps92
  go_wp2_with fail
  refine HOP.out.mono ?_
  rintro e w1 ⟨rfl, h1, n1⟩
  have H1 := Lib.hid h1
  have N1 := Lib.hid n1
  clear h1 n1
  obtain ⟨x, hx⟩ : ∃ x, r.now.2.1 = x := ⟨_, rfl⟩
  rw [hx]
  by_cases h0 : x = 0
  · subst h0
    have HX := Lib.hid hx
    clear hx
    go_wp2_with fail
    refine (is_ref rb r.tick id w1 _ H1.out HRT.out).mono ?_
    rintro e w2 ⟨rfl, rfl⟩
    have HB : Hid (begX r.abs id = if (r.tick.abs.got id).isSome then 0 else -37) := Lib.hid (by
      unfold begX
      rw [RG.abs_now, HX.out, if_neg (fun c => c rfl)]; rfl)
    cases hgot : (r.tick.abs.got id).isSome with
    | true =>
      rw [hgot] at HB
      clear hgot
      go_wp2_with fail
      go_ret
      exact ⟨by rw [HB.out]; rfl, H1.out, N1.out⟩
    | false =>
      rw [hgot] at HB
      clear hgot
      go_wp2_with fail
      go_ret
      exact ⟨by rw [HB.out]; rfl, H1.out, N1.out⟩
  · have hb : (x == 0) = false := by simpa using h0
    have HX := Lib.hid hx
    clear hx
    have HB : Hid (begX r.abs id = x) := Lib.hid (by
      unfold begX
      rw [RG.abs_now, HX.out, if_pos h0])
    go_wp2_with fail
    go_ret
    exact ⟨by rw [HB.out]; rfl, H1.out, N1.out⟩
end Go.Proofs.YtcdmdkgiabfbeaaGreatDoor

/-
  The document's store, written: an open file, a file, a byte. And what begun comes to.
-/
namespace Go.Proofs.YtcdmdkgiabfbeaaGreatDoor
open Go.RowKit

/-- What an operation of the document comes to. -/
def ROpR {β : Type} (m : Mem) (rb : Nat) (r : RG) (F : A × Int × β) (X : Mem → β → Prop) (m2 : Mem) (x : Int) : Prop :=
  ∃ r2, RR m2 rb r2 ∧ Fr m m2 (RFP rb r) (RFP rb r2) ∧ r2.abs = F.1 ∧ x = F.2.1 ∧ X m2 F.2.2

theorem RR.frTick (m : Mem) (rb : Nat) (r : RG) : Fr m (m.set rb (rstoreObj r.tick)) (RFP rb r) (RFP rb r.tick) := Fr.set _ (.inl (.inl rfl))

theorem RR.early {β : Type} {m : Mem} {rb : Nat} {r : RG} (h : RR m rb r) (x : Int) (d : β) (X : Mem → β → Prop) (hX : X (m.set rb (rstoreObj r.tick)) d) : ROpR m rb r (r.abs.tick, x, d) X (m.set rb (rstoreObj r.tick)) x :=
  ⟨r.tick, h.tick, RR.frTick m rb r, rfl, rfl, hX⟩

theorem RR.look {m : Mem} {rb : Nat} {r : RG} (h : RR m rb r) {k : Nat} {f : RF} (hk : r.F[k]? = some f) (hf : f.name ≠ ⟨#[]⟩) : r.abs.look f.name = some f.bs := by
  show (getR r.F f.name).map (·.bs) = _
  rw [(getR_iff h.rep.dist).2 ⟨hf, rfl, k, hk⟩]; rfl
theorem RR.bytesOf {m : Mem} {rb : Nat} {r : RG} (h : RR m rb r) {k : Nat} {f : RF} (hk : r.F[k]? = some f) (hf : f.name ≠ ⟨#[]⟩) : r.abs.bytes f.name = f.bs := by
  unfold A.bytes; rw [h.look hk hf]; rfl

/-- What begun comes to. -/
theorem RR.begun {m : Mem} {rb : Nat} {r : RG} (h : RR m rb r) (id : Int) :
    (begX r.abs id ≠ 0 ∧ ∀ (β : Type) (d : β) (f : A → H3 → Fail3 → A × Int × β), A.withA r.abs id d f = (r.abs.tick, begX r.abs id, d)) ∨
    (begX r.abs id = 0 ∧ ∃ (k : Nat) (o : RO) (f : RF), id = k ∧ 1 ≤ k ∧ k ≤ 32 ∧ r.O[k]? = some o ∧ o.file ≠ 0 ∧ r.F[o.file]? = some f ∧ f.name ≠ ⟨#[]⟩ ∧
      ∀ (β : Type) (d : β) (g : A → H3 → Fail3 → A × Int × β), A.withA r.abs id d g = g r.abs.tick (f.name, o.mode, o.pos) r.now) := by
  by_cases h0 : r.abs.now.2.1 = 0
  · cases hg : r.abs.got id with
    | none =>
      refine .inl ⟨?_, fun β d f => ?_⟩
      · unfold begX; rw [hg, if_neg (fun c => c h0)]; decide
      · unfold A.withA begX; rw [hg, if_neg (fun c => c h0), if_neg (fun c => c h0)]; rfl
    | some x =>
      refine .inr ⟨by unfold begX; rw [hg, if_neg (fun c => c h0)]; rfl, ?_⟩
      have hid : 1 ≤ id ∧ id ≤ 32 := by
        unfold A.got at hg
        by_cases hc : 1 ≤ id ∧ id ≤ 32
        · exact hc
        · rw [if_neg hc] at hg; cases hg
      obtain ⟨k, rfl⟩ : ∃ k : Nat, id = k := ⟨id.toNat, by omega⟩
      obtain ⟨o, ho, _, hgo⟩ := h.got k (by omega) (by omega)
      rcases hgo with ⟨_, hgo⟩ | ⟨h1, f, h2, h3, hgo⟩
      · rw [hg] at hgo; cases hgo
      · refine ⟨k, o, f, rfl, by omega, by omega, ho, h1, h2, h3, fun β d g => ?_⟩
        unfold A.withA
        rw [if_neg (fun c => c h0), hgo]; rfl
  · refine .inl ⟨?_, fun β d f => ?_⟩
    · unfold begX; rw [if_pos h0]; exact h0
    · unfold A.withA begX; rw [if_pos h0, if_pos h0]

theorem RRep.frozO {m : Mem} {rb : Nat} {r : RG} (h : RRep m rb r) {ob cap : Nat} (hov : r.ov = .slice (some ⟨ob, 0, none⟩) 33 cap) {w : World} (hm : Has w m) : ∀ i, i < 99 → w.frozen? ⟨ob, i, none⟩ = false :=
  (h.opens.write (g := ob) (by rw [hov]; rfl) hm).2.2.1

/-- An open file's cells, written. -/
theorem RR.setO {m : Mem} {rb : Nat} {r : RG} (h : RR m rb r) {ob cap : Nat} (hov : r.ov = .slice (some ⟨ob, 0, none⟩) 33 cap) {k : Nat} {o : RO} (hk : r.O[k]? = some o) (hk1 : 1 ≤ k) (o' : RO) (a : Nat) (vs : List Value) (hq : a + vs.length ≤ 3)
    (hc : roCells o' = (roCells o).take a ++ vs ++ (roCells o).drop (a + vs.length)) (ho : o'.file = 0 ∨ ∃ f, r.F[o'.file]? = some f ∧ f.name ≠ ⟨#[]⟩) (hp : o'.pos ≤ 262144) {w : World} (hm : Has w m) :
    ∃ m2, Has (w.setCells ob (k * 3 + a) vs) m2 ∧ RR m2 rb { r with O := r.O.set k o' } ∧ Fr m m2 (RFP rb r) (RFP rb { r with O := r.O.set k o' }) := by
  have hob : r.ov.ownBlock = some ob := by rw [hov]; rfl
  have hkl := (List.getElem?_eq_some_iff.1 hk).1
  have hol := h.rep.olen
  obtain ⟨_, _, _, hw⟩ := h.rep.opens.write hob hm
  obtain ⟨ob', h1, h2⟩ := hw w hm (k * 3 + a) vs (by omega)
  rw [flat_put roCells 3 (fun _ => rfl) r.O k o o' hk a vs hq hc] at h2
  refine ⟨_, h1, ⟨h.rep.putO (fun b x _ hb hx => ?_) h2 ho hp, fun o2 ho2 => ?_⟩, (Fr.set _ (.inl (.inr (.inr (.inl hob)))))⟩
  · rw [Mem.set_ne _ _ (by rintro rfl; exact hb hob)]; exact hx
  · have h3 : (r.O.set k o')[0]? = some o2 := ho2
    rw [List.getElem?_set_ne (by omega)] at h3
    exact h.zero o2 h3

/-- A file's cells, written; the bytes may have been written ahead of it. -/
theorem RR.setF {m mx : Mem} {rb : Nat} {r : RG} (h : RR m rb r) {fb cap : Nat} (hfv : r.fv = .slice (some ⟨fb, 0, none⟩) r.F.length cap) {k : Nat} {f : RF} (hk : r.F[k]? = some f) (hk0 : k ≠ 0)
    (keep : ∀ b o, m b = some o → f.bv.ownBlock ≠ some b → mx b = some o) (f' : RF) (a : Nat) (vs : List Value) (hq : a + vs.length ≤ 2)
    (hc : rfCells f' = (rfCells f).take a ++ vs ++ (rfCells f).drop (a + vs.length)) (hb : Row mx f'.bv 5 1 f'.bs.length (f'.bs.map byteV))
    (hnew : ∀ b, f'.bv.ownBlock = some b → f.bv.ownBlock = some b ∨ m b = none) (hdist : Dist (r.F.set k f')) (hnamed : f'.name ≠ ⟨#[]⟩ → isNameB f'.name = true) (hbs : f'.bs.length ≤ 262144)
    (hfile : f'.name = ⟨#[]⟩ → ∀ o ∈ r.O, o.file ≠ k) {w : World} (hm : Has w mx) :
    (∀ i, i < r.F.length * 2 → w.frozen? ⟨fb, i, none⟩ = false) ∧ ∃ m2, Has (w.setCells fb (k * 2 + a) vs) m2 ∧ RR m2 rb { r with F := r.F.set k f' } ∧ Fr m m2 (RFP rb r) (RFP rb { r with F := r.F.set k f' }) := by
  have hfb : r.fv.ownBlock = some fb := by rw [hfv]; rfl
  have hkl := (List.getElem?_eq_some_iff.1 hk).1
  have hmf := List.mem_of_getElem? hk
  have notf : ∀ {c e fz b}, m b = some (.cells c e fz) → e ≠ 5 → f.bv.ownBlock ≠ some b := fun hc he => (h.rep.bytes f hmf).notOwn (e' := _) hc he
  have rowx : Row mx r.fv 100 2 r.F.length (r.F.flatMap rfCells) := h.rep.files.keep fun b o hb ho => by
    obtain ⟨cur, fz, hc⟩ := h.rep.files.ty hb
    exact keep b o ho (notf hc (by decide))
  obtain ⟨_, _, hfz, hw⟩ := rowx.write hfb hm
  obtain ⟨oo, h1, h2⟩ := hw w hm (k * 2 + a) vs (by omega)
  rw [flat_put rfCells 2 (fun _ => rfl) r.F k f f' hk a vs hq hc] at h2
  have hnb : ∀ b, f'.bv.ownBlock = some b → b ≠ fb := by
    rintro b hb' rfl
    obtain ⟨cur, fz, hc⟩ := rowx.ty hfb
    exact hb.notOwn (e' := 100) hc (by decide) hb'
  refine ⟨hfz, _, h1, ⟨h.rep.put hk hk0 (fun b x _ hb1 hb2 hx => ?_) h2 (hb.set_other _ (fun e => hnb _ e rfl)) (fun j d hj hd b hb1 hb2 => ?_) hdist hnamed hbs hfile, h.zero⟩, ?_⟩
  · rw [Mem.set_ne _ _ (by rintro rfl; exact hb1 hfb)]; exact keep b x hx hb2
  · rcases hnew b hb2 with h3 | h3
    · obtain ⟨hjl, rfl⟩ := List.getElem?_eq_some_iff.1 hd
      obtain ⟨_, rfl⟩ := List.getElem?_eq_some_iff.1 hk
      have hp := List.pairwise_iff_getElem.1 h.rep.sep
      rcases Nat.lt_or_gt_of_ne hj with c | c
      · exact hp j k hjl hkl c b hb1 h3
      · exact hp k j hkl hjl c b h3 hb1
    · obtain ⟨cur, fz, hc⟩ := (h.rep.bytes d (List.mem_of_getElem? hd)).ty hb1
      rw [h3] at hc; cases hc
  · refine ⟨fun b o hb1 hb2 => ?_, fun b hb1 => ?_⟩
    · rw [Mem.set_ne _ _ (by rintro rfl; exact hb2 (.inr (.inl hfb)))]
      exact keep b o hb1 fun h3 => hb2 (.inr (.inr (.inr (.inr ⟨f, hmf, h3⟩))))
    · rcases RFP_put hb1 with h3 | h3
      · exact .inl h3
      · rcases hnew b h3 with h4 | h4
        · exact .inl (.inr (.inr (.inr (.inr ⟨f, hmf, h4⟩))))
        · exact .inr h4

theorem map_splice (bs : List UInt8) (j : Nat) (x : UInt8) (hj : j < bs.length) : (bs.map byteV).take j ++ [byteV x] ++ (bs.map byteV).drop (j + 1) = (bs.set j x).map byteV := by
  rw [List.map_set, List.set_eq_take_append_cons_drop, if_pos (by simpa using hj), List.append_assoc]; rfl

/-- A byte, written. -/
theorem RR.setB {m : Mem} {rb : Nat} {r : RG} (h : RR m rb r) {k : Nat} {f : RF} (hk : r.F[k]? = some f) (hk0 : k ≠ 0) {bb : Nat} (hbv : f.bv.ownBlock = some bb) (j : Nat) (x : UInt8) (hj : j < f.bs.length) {w : World} (hm : Has w m) :
    (∀ i, i < f.bs.length → w.frozen? ⟨bb, i, none⟩ = false ∧ ∃ v, w.cell? ⟨bb, i, none⟩ = some v) ∧ ∃ m2, Has (w.setCell ⟨bb, j, none⟩ (byteV x)) m2 ∧ RR m2 rb { r with F := r.F.set k { f with bs := f.bs.set j x } } ∧ Fr m m2 (RFP rb r) (RFP rb { r with F := r.F.set k { f with bs := f.bs.set j x } }) := by
  have hmf := List.mem_of_getElem? hk
  have hkl := (List.getElem?_eq_some_iff.1 hk).1
  obtain ⟨_, hce, hfz, hw⟩ := (h.rep.bytes f hmf).write hbv hm
  obtain ⟨oo, h1, h2⟩ := hw w hm j [byteV x] (by simp; omega)
  rw [show j + [byteV x].length = j + 1 from rfl, map_splice _ _ _ hj] at h2
  have hcells : (r.F.set k { f with bs := f.bs.set j x }).flatMap rfCells = r.F.flatMap rfCells := by
    have := flat_put rfCells 2 (fun _ => rfl) r.F k f { f with bs := f.bs.set j x } hk 0 (rfCells f) (Nat.le_refl _) (by simp [rfCells])
    rw [← this]
    obtain ⟨_, rfl⟩ := List.getElem?_eq_some_iff.1 hk
    have h3 := flat_put rfCells 2 (fun _ => rfl) r.F k r.F[k] r.F[k] hk 0 (rfCells r.F[k]) (Nat.le_refl _) (by simp [rfCells])
    rw [h3, List.set_getElem_self]
  have hdist : Dist (r.F.set k { f with bs := f.bs.set j x }) := dist_set h.rep.dist fun i d hi hd hn he => hi (h.rep.dist i k d f hd hk (by rw [← he]; exact hn) he.symm)
  have hfm : ∀ b, r.fv.ownBlock = some b → b ≠ bb := by
    rintro b hb rfl
    obtain ⟨cur, fz, hc⟩ := h.rep.files.ty hb
    exact (h.rep.bytes f hmf).notOwn (e' := 100) hc (by decide) hbv
  refine ⟨fun i hi => ⟨hfz i (by omega), _, by rw [hce i (by omega), List.getElem?_map, List.getElem?_eq_getElem hi]; rfl⟩, _, h1, ⟨h.rep.put hk hk0 (fun b o _ _ hb hx => ?_) ?_ (by simpa using h2) (fun j' d hj' hd b hb1 hb2 => ?_) hdist (fun hn => h.rep.named f hmf hn) (by simpa using h.rep.bsz f hmf) (fun hn o ho he => ?_), h.zero⟩, ?_⟩
  · rw [Mem.set_ne _ _ (by rintro rfl; exact hb hbv)]; exact hx
  · rw [hcells]; exact h.rep.files.set_other _ (fun e => hfm _ e rfl)
  · obtain ⟨hjl, rfl⟩ := List.getElem?_eq_some_iff.1 hd
    obtain ⟨_, rfl⟩ := List.getElem?_eq_some_iff.1 hk
    have hp := List.pairwise_iff_getElem.1 h.rep.sep
    rcases Nat.lt_or_gt_of_ne hj' with c | c
    · exact hp j' k hjl hkl c b hb1 hb2
    · exact hp k j' hkl hjl c b hb2 hb1
  · rcases h.rep.ofile o ho with h3 | ⟨d, h3, h4⟩
    · exact hk0 (by rw [← he, h3])
    · rw [he, hk] at h3
      obtain rfl := Option.some.inj h3
      exact h4 hn
  · refine (Fr.set (P := RFP rb r) _ (.inl (.inr (.inr (.inr (.inr ⟨f, hmf, hbv⟩)))))).mono fun b hb => ?_
    rcases RFP_put hb with h3 | h3
    · exact .inl h3
    · exact .inl (.inr (.inr (.inr (.inr ⟨f, hmf, h3⟩))))
end Go.Proofs.YtcdmdkgiabfbeaaGreatDoor

/-
  awake: what the document fixes.
-/
namespace Go.Proofs.YtcdmdkgiabfbeaaGreatDoor
open Go.RowKit

def awFl : List File2 := [(⟨#[97]⟩, ⟨#[120, 10, 121, 122]⟩)]
def aw1 : A := ((A0 awFl []).tick).setH 0 (some (⟨#[97]⟩, 1, 0))
def aw2 : A := aw1.tick.setH 0 (some (⟨#[97]⟩, 1, 2))

theorem aw_nameA : isNameB ⟨#[97]⟩ = true := by rw [isNameB_eq]; rfl
theorem aw_new : newE awFl 0 = 0 := by
  have h1 : sizeE (newE1 awFl 0) awFl = 0 := by kernel_rfl
  unfold newE
  rw [h1]
  unfold scanE
  rw [if_neg (by simp), if_pos]
  refine ⟨by simp [awFl], fun f hf => ?_⟩
  obtain rfl := List.mem_singleton.1 hf
  exact aw_nameA
theorem aw_open : (A0 awFl []).openF ⟨#[97]⟩ 1 = (aw1, 0, 1) := by
  have h : (A0 awFl []).openX ⟨#[97]⟩ 1 = 0 := by
    unfold A.openX
    rw [aw_nameA]
    kernel_rfl
  unfold A.openF
  rw [if_neg (fun c => c h)]
  rfl
theorem aw_line : A.withA aw1 1 ([], false) (lineF (1 - 1 : Int).toNat 9) = (aw2, 0, ([120], true)) := by kernel_rfl
theorem aw_write : A.withA aw2 1 () (writeF (1 - 1 : Int).toNat [113]) = (aw2.tick, -20, ()) := by kernel_rfl

set_option maxHeartbeats 4000000 in
set_option maxRecDepth 100000 in
theorem awake_any (w : World) (m : Mem) (hm : Has w m) (hG : GlobOk m) :
    Calls Tryz.prog 7 #[] w (Post w m fun v _ => v = .bool true) := by
  have hfr := hm.fresh (Nat.le_refl w.heap.size)
  have h1 := hm.alloc (.cells #[.string ⟨#[97]⟩, .string ⟨#[120, 10, 121, 122]⟩] 60)
  have l1 := Mem.le_set m (.cells #[.string ⟨#[97]⟩, .string ⟨#[120, 10, 121, 122]⟩] 60) hfr
  have NW := new_any (.slice (some ⟨w.heap.size, 0, none⟩) 1 1) (.slice none 0 0) awFl [] _ _ h1 (WindK.at (Cells.whole (Mem.set_same _ _ _) rfl)) (.inl ⟨rfl, rfl⟩) (by decide) (by decide) (by decide)
  have HNW := Lib.hid NW
  have L1 := Lib.hid l1
  have HG := Lib.hid hG
  clear hm h1 l1 NW hfr hG
  go_enter Tryz.func7, Tryz.ntmps7
  go_wp2_with fail
  refine HNW.out.mono ?_
  rintro e w2 ⟨v, m2, rfl, l2, h2, n2, hv⟩
  obtain ⟨sb, g, rfl, ow, ha⟩ := (hv.own l2 aw_new)
  have ow0 : Own m sb g m2 := ⟨Mem.le_trans L1.out ow.le, ow.rep, fun b hb => Mem.none_le L1.out (ow.new b hb)⟩
  have OW := Lib.hid ow0
  have H2 := Lib.hid h2
  have N2 := Lib.hid (((Env.refl w).alloc (.cells #[.string ⟨#[97]⟩, .string ⟨#[120, 10, 121, 122]⟩] 60)).trans n2)
  have HA := Lib.hid ha
  clear l2 h2 n2 hv ow ow0 ha
  go_wp2_with fail
  have hn0 : g.n ≤ 999999 := by
    have h : g.abs.n = 0 := by rw [HA.out]; rfl
    have h' : g.n = 0 := h
    omega
  refine (open_any sb ⟨#[97]⟩ 1 g w2 m2 H2.out OW.out.rep (OW.out.glob HG.out) (OW.out.zero HG.out) hn0).mono ?_
  rintro e w3 ⟨v, x, m3, rfl, h3, n3, hop⟩
  rw [HA.out, aw_open] at hop
  obtain ⟨g3, ow3, ha3, rfl, rfl⟩ := OW.out.step hop
  have OW3 := Lib.hid ow3
  have H3 := Lib.hid h3
  have N3 := Lib.hid (N2.out.trans n3)
  have HA3 := Lib.hid ha3
  clear h3 n3 hop ow3 ha3
  go_wp2_with fail
  have hn3 : g3.n ≤ 999999 := by
    have h : g3.abs.n = 1 := by rw [HA3.out]; rfl
    have h' : g3.n = 1 := h
    omega
  refine (line_any sb 1 9 g3 w3 m3 H3.out OW3.out.rep (OW3.out.glob HG.out) (OW3.out.zero HG.out) hn3).mono ?_
  rintro e w4 ⟨v, b, x, m4, rfl, h4, n4, hop⟩
  rw [HA3.out] at hop
  change OpR m3 sb g3 _ (A.withA aw1 1 ([], false) (lineF (1 - 1 : Int).toNat 9)) _ m4 x at hop
  rw [aw_line] at hop
  obtain ⟨g4, ow4, ha4, rfl, hb, rfl⟩ := OW3.out.step hop
  have OW4 := Lib.hid ow4
  have H4 := Lib.hid h4
  have N4 := Lib.hid (N3.out.trans n4)
  have HA4 := Lib.hid ha4
  have CV := conv_back (row_wind hb.1) w4 h4
  obtain ⟨va, vc, rfl, _⟩ := hb.1.lenV
  have CV' : (convert 26 9 (.slice va 1 vc)).run Tryz.prog w4 = .ok (.string ⟨#[120]⟩) w4 := CV
  have hfr := h4.fresh (Nat.le_refl w4.heap.size)
  have h5 := h4.alloc (.cells #[.int .u8 113] 5 (#[Value.int .u8 113].size, #[Value.int .u8 113].size + 1))
  have l5 := Mem.le_set m4 (.cells #[.int .u8 113] 5 (#[Value.int .u8 113].size, #[Value.int .u8 113].size + 1)) hfr
  have H5 := Lib.hid h5
  have OW5 := Lib.hid (ow4.grow l5)
  have N5 := Lib.hid (N4.out.alloc (.cells #[.int .u8 113] 5 (#[Value.int .u8 113].size, #[Value.int .u8 113].size + 1)))
  have HFR := Lib.hid hfr
  have C5 : Hid (Cells (m4.set w4.heap.size (.cells #[.int .u8 113] 5 (#[Value.int .u8 113].size, #[Value.int .u8 113].size + 1))) w4.heap.size 0 [.int .u8 113]) := Lib.hid (Cells.whole (Mem.set_same _ _ _) rfl)
  have hcs := Lib.run_convert_bytes_const (P := Tryz.prog) w4 26 5 #[.int .u8 113] 1 1 Tryz.underlying26 Tryz.underlying5
  clear h4 n4 hop ow4 ha4 hb CV h5 l5 hfr
  go_wp2_with fail
  have hn4 : g4.n ≤ 999999 := by
    have h : g4.abs.n = 2 := by rw [HA4.out]; rfl
    have h' : g4.n = 2 := h
    omega
  refine (write_any sb 1 (.slice (some ⟨w4.heap.size, 0, none⟩) 1 1) [113] g4 _ _ H5.out OW5.out.rep (OW5.out.glob HG.out) (OW5.out.zero HG.out) hn4 (Wind.z (.inr ⟨w4.heap.size, 0, 1, rfl, Nat.le_refl _, by decide, C5.out⟩)) (fun _ b hb => by
    obtain rfl : w4.heap.size = b := Option.some.inj hb
    exact OW4.out.rep.unknown HFR.out) (by decide)).mono ?_
  rintro e w6 ⟨x, m6, rfl, h6, n6, hop⟩
  rw [HA4.out] at hop
  change OpR _ sb g4 _ (A.withA aw2 1 () (writeF (1 - 1 : Int).toNat [113])) _ m6 x at hop
  rw [aw_write] at hop
  obtain ⟨g6, ow6, ha6, rfl, _⟩ := OW5.out.step hop
  have OW6 := Lib.hid ow6
  have H6 := Lib.hid h6
  have N6 := Lib.hid (N5.out.trans n6)
  clear h6 n6 hop ow6 ha6
  go_wp2_with fail
  go_ret
  exact Post.mk m6 OW6.out.le H6.out N6.out rfl
end Go.Proofs.YtcdmdkgiabfbeaaGreatDoor

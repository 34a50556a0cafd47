/-
  left: the window of a file from an open file's position on.
-/
import Derived.Test.YtcdmdkgiabfbeaaDoorFile
import Derived.Lib.MinMax
namespace Go.Proofs.YtcdmdkgiabfbeaaDoor
open Go.RowKit

/-- What an open file has from its position on, at most so much. -/
def leftL (bs : List UInt8) (pos : Nat) (most short : Int) : List UInt8 := (bs.drop pos).take (if 0 < short then min most short else most).toNat

/-- A window of bytes, somewhere in a block. -/
def Wind (m : Mem) (v : Value) (xs : List UInt8) : Prop :=
  (v = .slice none 0 0 ∧ xs = []) ∨ ∃ g o cap, v = .slice (some ⟨g, o, none⟩) xs.length cap ∧ xs.length ≤ cap ∧ cap ≤ maxLen ∧ Cells m g o (xs.map byteV)
theorem Wind.le {m m' : Mem} {v : Value} {xs : List UInt8} (h : Wind m v xs) (l : m.le m') : Wind m' v xs := by
  rcases h with h | ⟨g, o, cap, h1, h2, h3, h4⟩
  · exact .inl h
  · exact .inr ⟨g, o, cap, h1, h2, h3, h4.le l⟩

/-- .. or of none, wherever it lies. -/
def WindZ (m : Mem) (v : Value) (xs : List UInt8) : Prop :=
  (∃ a cap, v = .slice a 0 cap ∧ xs = []) ∨ ∃ g o cap, v = .slice (some ⟨g, o, none⟩) xs.length cap ∧ 0 < xs.length ∧ Cells m g o (xs.map byteV)
theorem Wind.z {m : Mem} {v : Value} {xs : List UInt8} (h : Wind m v xs) : WindZ m v xs := by
  rcases h with ⟨h1, h2⟩ | ⟨g, o, cap, h1, h2, h3, h4⟩
  · exact .inl ⟨none, 0, h1, h2⟩
  · rcases Nat.eq_zero_or_pos xs.length with h0 | h0
    · exact .inl ⟨_, _, by rw [h1, h0], List.eq_nil_of_length_eq_zero h0⟩
    · exact .inr ⟨g, o, cap, h1, h0, h4⟩
theorem WindZ.le {m m' : Mem} {v : Value} {xs : List UInt8} (h : WindZ m v xs) (l : m.le m') : WindZ m' v xs := by
  rcases h with h | ⟨g, o, cap, h1, h2, h4⟩
  · exact .inl h
  · exact .inr ⟨g, o, cap, h1, h2, h4.le l⟩

theorem leftL_nil (pos : Nat) (most short : Int) : leftL [] pos most short = [] := by simp [leftL]

theorem sizeB : (Tryd.prog.info? 5).map (·.size) = some 1 := by kernel_rfl

/-- The block that a slice lies in. -/
def _root_.Go.Value.ownBlk : Value → Option Nat | .slice (some a) _ _ => some a.block | _ => none

/-- A slice's block is one of bytes. -/
def TypB (m : Mem) (v : Value) : Prop := ∀ g o n c, v = .slice (some ⟨g, o, none⟩) n c → ∃ cur fz, m g = some (.cells cur 5 fz)
theorem TypB.le {m m' : Mem} {v : Value} (h : TypB m v) (l : m.le m') : TypB m' v := fun g o n c hv => by
  obtain ⟨cur, fz, hg⟩ := h g o n c hv
  exact ⟨cur, fz, l _ _ hg⟩
theorem Wind.set {m : Mem} {v : Value} {xs : List UInt8} (h : Wind m v xs) (ht : TypB m v) {b : Nat} {c1 : Array Value} {e1 : TypeId} {fz1 : Nat × Nat} (hb : m b = some (.cells c1 e1 fz1)) (he : e1 ≠ 5) (o : Obj) : Wind (m.set b o) v xs := by
  rcases h with h | ⟨g, p, cap, h1, h2, h3, c, e, fz, h4, h5⟩
  · exact .inl h
  · refine .inr ⟨g, p, cap, h1, h2, h3, c, e, fz, ?_, h5⟩
    rw [Mem.set_ne]
    · exact h4
    · intro e; subst e
      obtain ⟨cur, fz, hc⟩ := ht _ _ _ _ h1
      rw [hb] at hc
      simp only [Option.some.injEq, Obj.cells.injEq] at hc
      exact he hc.2.1
theorem TypB.set {m : Mem} {v : Value} (ht : TypB m v) {b : Nat} {c1 : Array Value} {e1 : TypeId} {fz1 : Nat × Nat} (hb : m b = some (.cells c1 e1 fz1)) (he : e1 ≠ 5) (o : Obj) : TypB (m.set b o) v := fun g p n c hv => by
  obtain ⟨cur, fz, hc⟩ := ht g p n c hv
  refine ⟨cur, fz, ?_⟩
  rw [Mem.set_ne]
  · exact hc
  · intro e; subst e
    rw [hb] at hc
    simp only [Option.some.injEq, Obj.cells.injEq] at hc
    exact he hc.2.1

/-- A window in a row of bytes. -/
theorem wind_of {m : Mem} {gb n : Nat} {bs : List UInt8} (hc : Cells m gb 0 (bs.map byteV)) (p k : Nat) (hk : k = ((bs.drop p).take n).length) (l : Addr)
    (hl : l = ⟨gb, p, none⟩ ∨ k = 0 ∧ l = ⟨gb, 0, none⟩) (c : Nat) (hkc : k ≤ c) (hcc : c ≤ maxLen) : Wind m (.slice (some l) k c) ((bs.drop p).take n) := by
  rcases hl with rfl | ⟨h0, rfl⟩
  · refine .inr ⟨gb, p, c, by rw [← hk], by omega, hcc, ?_⟩
    obtain ⟨cc, e, fz, h1, h2⟩ := hc
    refine ⟨cc, e, fz, h1, fun j u hj => ?_⟩
    have := h2 (p + j) u ?_
    · rwa [Nat.zero_add] at this
    · rw [List.getElem?_map] at hj ⊢
      rw [List.getElem?_take] at hj
      split at hj
      · rwa [List.getElem?_drop] at hj
      · simp at hj
  · have h1 : (bs.drop p).take n = [] := List.eq_nil_of_length_eq_zero (by omega)
    rw [h1]
    obtain ⟨cc, e, fz, hg, _⟩ := hc
    exact .inr ⟨gb, 0, c, by rw [h0]; rfl, by simp, hcc, cc, e, fz, hg, fun j u hj => by simp at hj⟩

theorem left_wind {m : Mem} {gb cap pos : Nat} {bs : List UInt8} (hc : Cells m gb 0 (bs.map byteV)) (hnc : bs.length ≤ cap) (hcm : cap ≤ maxLen) (M : Int) (l : Addr)
    (hl : l = ⟨gb, (min (pos : Int) bs.length).toNat, none⟩ ∨ cap = (min (pos : Int) bs.length).toNat ∧ l = ⟨gb, 0, none⟩) (k c : Nat)
    (hk : k = (min ((bs.length - (min (pos : Int) bs.length).toNat : Nat) : Int) (max M 0)).toNat) (hcc : c = cap - (min (pos : Int) bs.length).toNat) :
    Wind m (.slice (some l) k c) ((bs.drop pos).take M.toNat) := by
  have hd : bs.drop pos = bs.drop (min (pos : Int) bs.length).toNat := by
    by_cases h : pos ≤ bs.length
    · rw [show (min (pos : Int) bs.length).toNat = pos from by omega]
    · rw [List.drop_of_length_le (by omega), List.drop_of_length_le (by omega)]
  rw [hd]
  refine wind_of hc _ k ?_ l ?_ c (by omega) (by omega)
  · rw [List.length_take, List.length_drop]; omega
  · rcases hl with h | ⟨h1, h2⟩
    · exact .inl h
    · exact .inr ⟨by omega, h2⟩

set_option maxHeartbeats 1000000 in
theorem left_any (ob fb pos : Nat) (mode most op ior short : Int) (bv : Value) (bs : List UInt8) (w : World) (m : Mem) (hm : Has w m)
    (ho : m ob = some (.cells #[.pointer (some ⟨fb, 0, none⟩), .int .i64 mode, .int .i64 pos] 80 (0, 0)))
    (hf : m fb = some (.cells #[bv] 62 (0, 0))) (hr : Row m bv 5 1 bs.length (bs.map byteV)) (hb : bs.length ≤ 262144) (hp : pos ≤ 262144) :
    Calls Tryd.prog 34 #[.pointer (some ⟨ob, 0, none⟩), .int .i64 most, .agg #[.int .i64 op, .int .i64 ior, .int .i64 short]] w
      (Post w m fun v _ => Wind m v (leftL bs pos most short) ∧ TypB m v) := by
  have c0 : w.cell? ⟨ob, 0, none⟩ = some (.pointer (some ⟨fb, 0, none⟩)) := by rw [hm.cell ho]; rfl
  have c2 : w.cell? ⟨ob, 2, none⟩ = some (.int .i64 pos) := by rw [hm.cell ho]; rfl
  have d0 : w.cell? ⟨fb, 0, none⟩ = some bv := by rw [hm.cell hf]; rfl
  have l1 := hm.lt ho
  have l2 := hm.lt hf
  have H := Lib.hid hm
  have HR := Lib.hid hr
  clear hm ho hf hr
  have HRB := HR.out
  rcases HRB.2 with ⟨rfl, h2⟩ | ⟨gb, cap, cur, fz, rfl, hg, hth, hnc, hcm, hcs, htk⟩
  · have hl : bs = [] := List.eq_nil_of_length_eq_zero h2
    subst hl
    clear HRB h2 hb
    rw [leftL_nil]
    by_cases hs : 0 < short
    all_goals
      go_enter Tryd.func34, Tryd.ntmps34
      go_wp2_with fail
      go_quiet (fail)
      go_wp2_with fail
      go_ret
      exact Post.mk m (Mem.le_refl _) ((H.out.keep _).drewN _) (((Env.refl w).alloc _).drewN _) ⟨.inl ⟨congrArg (fun k => Value.slice none k 0) (by omega), rfl⟩, fun g o n c hv => by cases hv⟩
  · have HCE := Lib.hid HRB.cells
    have HGT : Hid (∃ cur fz, m gb = some (.cells cur 5 fz)) := ⟨cur, fz, hg⟩
    clear HRB hg hth hcs htk fz cur
    have hb2 : bs.length ≤ cap := hnc
    by_cases hs : 0 < short
    · have HL := Lib.hid (show leftL bs pos most short = (bs.drop pos).take (min most short).toNat from by unfold leftL; rw [if_pos hs])
      go_enter Tryd.func34, Tryd.ntmps34
      go_wp2_with fail
      go_quiet (fail)
      go_wp2_with fail
      all_goals
        go_ret
        refine Post.mk m (Mem.le_refl _) ((H.out.keep _).drewN _) (((Env.refl w).alloc _).drewN _) ?_
        rw [HL.out]
        refine ⟨left_wind HCE.out hnc hcm _ _ (by first | exact .inl rfl | exact .inr ⟨by assumption, rfl⟩) _ _ (by omega) (by omega), fun g o n c hv => ?_⟩
        have hv' : some gb = some g := congrArg Value.ownBlk hv
        rw [← Option.some.inj hv']
        exact HGT.out
    · have HL := Lib.hid (show leftL bs pos most short = (bs.drop pos).take most.toNat from by unfold leftL; rw [if_neg hs])
      go_enter Tryd.func34, Tryd.ntmps34
      go_wp2_with fail
      go_quiet (fail)
      go_wp2_with fail
      all_goals
        go_ret
        refine Post.mk m (Mem.le_refl _) ((H.out.keep _).drewN _) (((Env.refl w).alloc _).drewN _) ?_
        rw [HL.out]
        refine ⟨left_wind HCE.out hnc hcm _ _ (by first | exact .inl rfl | exact .inr ⟨by assumption, rfl⟩) _ _ (by omega) (by omega), fun g o n c hv => ?_⟩
        have hv' : some gb = some g := congrArg Value.ownBlk hv
        rw [← Option.some.inj hv']
        exact HGT.out
end Go.Proofs.YtcdmdkgiabfbeaaDoor

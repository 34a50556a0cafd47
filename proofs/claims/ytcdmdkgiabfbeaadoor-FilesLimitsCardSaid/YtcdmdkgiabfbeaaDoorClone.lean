/-
  slices.Clone of bytes, bytes.IndexByte: at a window.
-/
import Derived.Test.YtcdmdkgiabfbeaaDoorLeft
import Derived.Lib.BytesEntry
import Derived.Laws.StandIn
import Derived.Deep.Upon
namespace Go.Proofs.YtcdmdkgiabfbeaaDoor
open Go.RowKit

section
variable {P : Program} {w : World} {m : Mem}
/-- append of a window of bytes. -/
theorem run_append_wind (t ty e : TypeId) (i : TypeInfo) (z : Value) (ht : P.underlying t = some (.slice e)) (hi : P.info? e = some i) (hz : i.zero = some z)
    (hsize : i.size = 1) (hby : i.bytes = 1) (hzs : z.cells.size = 1) (hm : Has w m)
    (v : Value) (n : Nat) (xs : List Value) (hrow : Row m v e 1 n xs) (y : Value) (ys : List UInt8) (hy : Wind m y ys) (hmax : n + ys.length ≤ 1000000000) :
    ∃ v' w' m', (Builtin.append_ #[t, t] ty #[v, y]).run P w = .ok v' w' ∧ Env w w' ∧ Has w' m' ∧ Row m' v' e 1 (n + ys.length) (xs ++ ys.map byteV) ∧ Grows m m' v v' := by
  have nothing : ys = [] → (∃ v' w' m', (Builtin.append_ #[t, t] ty #[v, y]).run P w = .ok v' w' ∧ Env w w' ∧ Has w' m' ∧ Row m' v' e 1 (n + ys.length) (xs ++ ys.map byteV) ∧ Grows m m' v v') := fun h0 => by
    subst h0
    have hs : Src P i.size t y 0 [] w := by
      rcases hy with ⟨rfl, _⟩ | ⟨g, o, cap, rfl, _⟩
      · exact Src.ofNil w ht 0
      · exact Src.ofSlice w ht ⟨g, o, none⟩ 0 cap [] (by simp) (by simp) (by simp)
    obtain ⟨va, vc, rfl, hle⟩ := hrow.lenV
    exact ⟨_, _, _, run_append_nothing w t t ty e i ht hi va n vc hle y hs, Env.refl _, hm, by simpa using hrow, .inl ⟨rfl, rfl⟩⟩
  rcases Nat.eq_zero_or_pos ys.length with h0 | h0
  · exact nothing (List.eq_nil_of_length_eq_zero h0)
  · rcases hy with ⟨rfl, h⟩ | ⟨g, o, cap, rfl, hc, _, hcells⟩
    · subst h; cases h0
    · exact run_append_row (P := P) t ty e i z 1 1 ht hi hz hsize hby hzs (by decide) hm v n xs hrow g o ys.length cap (ys.map byteV) (by simp) hcells
        (fun u hu => by obtain ⟨_, _, rfl⟩ := List.mem_map.1 hu; rfl) h0 (by omega) (by omega)
end

theorem row_wind {m : Mem} {v : Value} {bs : List UInt8} (h : Row m v 5 1 bs.length (bs.map byteV)) : Wind m v bs := by
  have hh := h
  rcases hh.2 with ⟨rfl, h2⟩ | ⟨gb, cap, cur, fz, rfl, hg, hth, hnc, hcm, hcs, htk⟩
  · exact .inl ⟨rfl, List.eq_nil_of_length_eq_zero h2⟩
  · exact .inr ⟨gb, 0, cap, rfl, hnc, hcm, h.cells⟩

theorem nilB (a : Addr) (n c : Nat) (w : World) : (binOp .eql 33 (.slice (some a) n c) (.slice none 0 0)).run Tryd.prog w = .ok (.bool false) w := by kernel_rfl

theorem nilNil (w : World) : (binOp .eql 33 (.slice none 0 0) (.slice none 0 0)).run Tryd.prog w = .ok (.bool true) w := by kernel_rfl

set_option maxHeartbeats 1000000 in
set_option maxRecDepth 100000 in
theorem cloneB_any (y : Value) (ys : List UInt8) (w : World) (m : Mem) (hm : Has w m) (hy : Wind m y ys) (hl : ys.length ≤ 1000000) :
    Calls Tryd.prog 36 #[y] w (Post w m fun v m' => Row m' v 5 1 ys.length (ys.map byteV) ∧ ∀ b, v.ownBlock = some b → m b = none) := by
  have H := Lib.hid hm
  have HY := Lib.hid hy
  rcases hy with ⟨rfl, h⟩ | ⟨g, o, cap, rfl, hc, hcm, hcells⟩
  · subst h
    have hnn := nilNil
    clear hm
    go_enter Tryd.func36, Tryd.ntmps36
    go_wp2_with fail
    go_ret
    exact Post.mk _ (Mem.le_refl _) H.out (Env.refl _) ⟨Row.nil _ _ _, fun b hb => by cases hb⟩
  · have hnb := nilB ⟨g, o, none⟩ ys.length cap
    have h1 := hm.alloc (.cells #[] 5)
    have k1 := Mem.le_set m (.cells #[] 5) (hm.fresh (Nat.le_refl _))
    obtain ⟨i0, hi, hz0, hz1, hz2⟩ := info_parts infoB
    have r0 : Row (m.set w.heap.size (.cells #[] 5)) (.slice (some ⟨w.heap.size, 0, none⟩) 0 0) 5 1 0 [] :=
      ⟨by simp, .inr ⟨w.heap.size, 0, #[], (0, 0), rfl, Mem.set_same _ _ _, Thaw.zero _, Nat.le_refl _, by decide, by simp, rfl⟩⟩
    obtain ⟨v', w2, m2, hrun, he2, hh2, hrow2, hgr2⟩ := run_append_wind (P := Tryd.prog) 33 33 5 i0 (.int .u8 0) Tryd.underlying33 hi hz0 hz1 hz2 rfl h1 _ 0 [] r0 _ ys (HY.out.le k1) (by omega)
    have HFR := Lib.hid (hm.fresh (Nat.le_refl w.heap.size))
    have K1 := Lib.hid k1
    have HE2 := Lib.hid he2
    have HH2 := Lib.hid hh2
    have HROW := Lib.hid hrow2
    have HGR := Lib.hid hgr2
    clear hm hcells h1 k1 r0 hi hz0 hz1 hz2 he2 hh2 hrow2 hgr2
    go_enter Tryd.func36, Tryd.ntmps36
    go_wp2_with (at_builtin; refine wpList_b2 rfl .append Builtin.append_ (fun _ _ _ _ => rfl) _ _ _ _ rfl rfl rfl hrun ?_)
    go_ret
    have hle : m.le m2 := fun b ob hb => HGR.out.keep (K1.out _ _ hb) (fun e => by
      simp only [Value.ownBlock, Option.some.injEq] at e
      subst e; rw [HFR.out] at hb; cases hb)
    refine Post.mk m2 hle HH2.out (((Env.refl w).alloc _).trans HE2.out) ⟨by simpa using HROW.out, fun b hb => ?_⟩
    change v'.ownBlock = some b at hb
    cases hmb : m b with
    | none => rfl
    | some ob =>
      exfalso
      have h3 : b = w.heap.size ∨ (m.set w.heap.size (.cells #[] 5)) b = none := by
        rcases HGR.out with ⟨_, h2⟩ | ⟨gb, oo, h1, _, h3⟩
        · rw [h2] at hb; exact .inl (Option.some.inj hb).symm
        · rw [h1] at hb
          obtain rfl := Option.some.inj hb
          rcases h3 with h3 | h3
          · exact .inl (Option.some.inj h3).symm
          · exact .inr h3
      rcases h3 with h3 | h3
      · subst h3; rw [HFR.out] at hmb; cases hmb
      · rw [K1.out _ _ hmb] at h3; cases h3

theorem bytes_back (xs : List UInt8) : Lib.bytesOf (xs.map fun x => (x.toNat : Int)) = xs := by
  simp only [Lib.bytesOf, List.map_map]
  conv => rhs; rw [← List.map_id xs]
  refine List.map_congr_left fun x _ => ?_
  simp

set_option maxHeartbeats 1000000 in
set_option maxRecDepth 100000 in
theorem indexB_any (y : Value) (ys : List UInt8) (w : World) (m : Mem) (hm : Has w m) (hy : Wind m y ys) :
    Calls Tryd.prog 35 #[y, .int .u8 10] w fun e w' => e = .returned (.int .i64 (Lib.indexByte ys 10)) ∧ w' = w := by
  rcases hy with ⟨rfl, h⟩ | ⟨g, o, cap, rfl, hc, hcm, hcells⟩
  · subst h
    clear hm
    go_enter Tryd.func35, Tryd.ntmps35
    go_wp2
    rw [run_callFunc_extern Tryd.func57 (by kernel_rfl) (by kernel_rfl) (by kernel_rfl) (e := Extern.BytealgIndexByte.indexByte) (by kernel_rfl), Lib.run_indexByteNil w 0 0 10]
    simp only [Result.andThen]
    rw [Oper.upon_value]
    go_wp2
    go_ret
    exact ⟨rfl, rfl⟩
  · have hcs : ∀ i, i < ys.length → w.cell? ⟨g, o + i, none⟩ = some (.int .u8 ((ys.map fun x => (x.toNat : Int)).getD i 0)) := fun i hi => by
      obtain ⟨c, e, fz, h1, h2⟩ := hcells
      rw [hm.cell h1]
      refine h2 i _ ?_
      simp [hi, byteV, List.getD_eq_getElem?_getD]
    have hr := Lib.run_indexByteSlice (P := Tryd.prog) w g o ys.length cap (ys.map fun x => (x.toNat : Int)) (by simp) hcs 10
    rw [bytes_back] at hr
    clear hm hcells hcs
    go_enter Tryd.func35, Tryd.ntmps35
    go_wp2
    rw [run_callFunc_extern Tryd.func57 (by kernel_rfl) (by kernel_rfl) (by kernel_rfl) (e := Extern.BytealgIndexByte.indexByte) (by kernel_rfl), hr]
    simp only [Result.andThen]
    rw [Oper.upon_value]
    go_wp2
    go_ret
    exact ⟨rfl, rfl⟩
end Go.Proofs.YtcdmdkgiabfbeaaDoor

/-
  Arguments opened: what of them is known in memory, and how large they are.
-/
import Derived.Test.YtcdmdkgiabfbeaaDoorLaid
import Derived.Deep.Slices
import Derived.SizedLaws
namespace Go.Proofs.YtcdmdkgiabfbeaaDoor
open Go.ChangeShapes Go.WideShapes Go.RowKit

theorem cells_memOf {W : World} {a : Addr} {xs : List Value} (h : ∀ j u, xs[j]? = some u → W.cell? (a.add j) = some u) (hp : 0 < xs.length) : ∃ g o, a = ⟨g, o, none⟩ ∧ Cells (memOf W) g o xs := by
  obtain ⟨ab, ao, asp⟩ := a
  have h00 := h 0 xs[0] (by simp [hp])
  cases asp with
  | some sp =>
    exfalso
    simp only [Addr.add, if_true, World.cell?] at h00
    split at h00 <;> simp at h00
  | none =>
    have hadd : ∀ j, (⟨ab, ao, none⟩ : Addr).add j = ⟨ab, ao + j, none⟩ := fun j => by unfold Addr.add; split <;> simp_all
    refine ⟨ab, ao, rfl, ?_⟩
    cases ho : W.heap[ab]? with
    | none => rw [hadd] at h00; simp [World.cell?, ho] at h00
    | some o =>
      cases o with
      | cells c e fz =>
        refine ⟨c, e, fz, ho, fun j u hj => ?_⟩
        have hc := h j u hj
        rw [hadd] at hc
        simp only [World.cell?, ho] at hc
        exact hc
      | _ => rw [hadd] at h00; simp [World.cell?, ho] at h00

section
variable {H : Type} {enc : TypeId × Value → H} {W : World} {held : Bool}

theorem oa_u8 : Tryd.prog.cellsOf 5 = 1 := by kernel_rfl
theorem oa_bytes8 : Tryd.prog.bytesOf 5 = 1 := by kernel_rfl

theorem byte_of {n : Int} (h : (Lit.int .u8 n).wf = true) : byteV (UInt8.ofNat n.toNat) = .int .u8 n := by
  have h2 : IntKind.u8.min ≤ n ∧ n ≤ IntKind.u8.max := by simpa [Lit.wf] using h
  have h3 : IntKind.u8.min = 0 := by decide
  have h4 : IntKind.u8.max = 255 := by decide
  rw [h3, h4] at h2
  unfold byteV
  congr 1
  simp
  omega

/-- A slice of bytes. -/
theorem open_bytes {fuel : Nat} {cs : List Value} {x : DataW H × List MemPlace} (h : DataW.trod enc Tryd.prog W 0 (fun _ => true) held fuel 33 cs = some x) :
    ∃ v bs, cs = [v] ∧ WindZ (memOf W) v bs ∧ ((∀ n ∈ x.1.weights Tryd.prog 33, n ≤ reachBytes) → bs.length ≤ reachBytes) := by
  rcases open_ints Tryd.underlying33 Tryd.underlying5 oa_u8 h with ⟨hcs, hx⟩ | ⟨a, len, cap, zs, hcs, _, hl, hm, hz, hx, hcell, hws⟩
  · exact ⟨_, [], hcs, .inl ⟨none, 0, rfl, rfl⟩, fun _ => Nat.zero_le _⟩
  · simp only [if_true] at hz
    refine ⟨_, (zs.take len).map fun n => UInt8.ofNat n.toNat, hcs, ?_, fun hw => ?_⟩
    · have hlen : ((zs.take len).map fun n => UInt8.ofNat n.toNat).length = len := by simp; omega
      rcases Nat.eq_zero_or_pos len with h0 | h0
      · subst h0; exact .inl ⟨_, _, rfl, by simp⟩
      · have hb : (((zs.take len).map fun n => UInt8.ofNat n.toNat).map byteV) = (zs.take len).map (Value.int .u8) := by
          rw [List.map_map]
          exact List.map_congr_left fun n hn => byte_of (hws n (List.mem_of_mem_take hn))
        obtain ⟨g, o, rfl, hc⟩ := cells_memOf (W := W) (a := a) (xs := (zs.take len).map (Value.int .u8)) (fun j u hj => by
          rw [List.getElem?_map, List.getElem?_take] at hj
          split at hj
          · rename_i hjl
            rw [hcell j (by omega)]
            rw [List.getElem?_eq_getElem (by omega)] at hj
            rw [List.getD_eq_getElem?_getD, List.getElem?_eq_getElem (by omega)]
            simpa using hj
          · cases hj) (by simp; omega)
        exact .inr ⟨g, o, cap, by rw [hlen], by omega, by rw [hb]; exact hc⟩
    · have : len ≤ reachBytes := by
        refine Nat.le_trans ?_ (hw ((lits .u8 (zs.take len) : List (DataW H)).length * 1 + (lits .u8 (zs.drop len) : List (DataW H)).length * 1) ?_)
        · simp [lits]; omega
        · rw [hx]
          simp only [DataW.weights, Tryd.underlying33, oa_bytes8, Nat.mul_one, List.mem_cons, true_or]
      simp; omega

theorem weights_all {P : Program} {e : TypeId} : ∀ {ds : List (DataW H)} {d : DataW H}, d ∈ ds → ∀ n ∈ d.weights P e, n ∈ DataW.weightsAll P e ds
  | [], _, h, _, _ => by cases h
  | d0 :: ds, d, h, n, hn => by
    simp only [DataW.weightsAll, List.mem_append]
    rcases List.mem_cons.1 h with rfl | h
    · exact .inl hn
    · exact .inr (weights_all h n hn)
end
end Go.Proofs.YtcdmdkgiabfbeaaDoor

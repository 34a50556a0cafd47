/-
  FilesBytes: the row and its tied card.
-/
import Derived.Test.YtcdmdkgiabfbeaaDoorBytesWalk
import Derived.Test.YtcdmdkgiabfbeaaDoorOpenArgs
import Derived.Test.YtcdmdkgiabfbeaaDoorCards
import Derived.Test.YtcdmdkgiabfbeaaDoorTie
import Derived.Below
import Derived.Carry
import Derived.SevenTiedAt
namespace Go.Proofs.YtcdmdkgiabfbeaaDoor
open Go.ChangeShapes Go.WideShapes Go.RowKit

theorem by_laidOut : laidOutB Tryd.prog = true := by kernel_rfl
theorem by_cellsI : Tryd.prog.cellsOf 3 = 1 := by kernel_rfl
theorem by_cellsB : Tryd.prog.cellsOf 33 = 1 := by kernel_rfl

section
variable {H : Type} {enc : TypeId × Value → H} {W : World} {held : Bool}
theorem open_places {fuel : Nat} {cs : List Value} {x : DataW H × List MemPlace} (h : DataW.trod enc Tryd.prog W 0 (fun _ => true) held fuel 37 cs = some x) :
    ∃ (v : Value) (zs : List Int), cs = [v] ∧ ∃ a cap, v = .slice a zs.length cap ∧ (0 < zs.length → ∃ g o, a = some ⟨g, o, none⟩ ∧ Cells (memOf W) g o (zs.map fun z => .int .i64 z)) := by
  rcases open_ints Tryd.underlying37 Tryd.underlying3 by_cellsI h with ⟨hcs, _⟩ | ⟨a, len, cap, zs, hcs, _, hl, _, hz, _, hcell, _⟩
  · exact ⟨_, [], hcs, none, 0, rfl, fun h => absurd h (by simp)⟩
  · simp only [if_true] at hz
    have hlen : (zs.take len).length = len := by simp; omega
    refine ⟨_, zs.take len, hcs, some a, cap, by rw [hlen], fun hp => ?_⟩
    rw [hlen] at hp
    obtain ⟨g, o, rfl, hc⟩ := cells_memOf (W := W) (a := a) (xs := (zs.take len).map fun z => Value.int .i64 z) (fun j u hj => by
      rw [List.getElem?_map, List.getElem?_take] at hj
      split at hj
      · rename_i hjl
        rw [hcell j (by omega)]
        rw [List.getElem?_eq_getElem (by omega)] at hj
        rw [List.getD_eq_getElem?_getD, List.getElem?_eq_getElem (by omega)]
        simpa using hj
      · cases hj) (by simp; omega)
    exact ⟨g, o, rfl, hc⟩

theorem open_parts {fuel : Nat} {cs : List Value} {x : DataW H × List MemPlace} (h : DataW.trod enc Tryd.prog W 0 (fun _ => true) held fuel 38 cs = some x) :
    ∃ (v : Value) (ps : List (Value × List UInt8)), cs = [v] ∧ (∃ a cap, v = .slice a ps.length cap ∧ (0 < ps.length → ∃ g o, a = some ⟨g, o, none⟩ ∧ Cells (memOf W) g o (ps.map (·.1)))) ∧ ∀ p ∈ ps, WindZ (memOf W) p.1 p.2 := by
  rcases Go.Deep.open_slice1 Tryd.underlying38 by_cellsB h with ⟨hcs, _⟩ | ⟨a, len, cap, m, n, V, D, Pl, hcs, _, hl, _, hm, _, hel⟩
  · exact ⟨_, [], hcs, ⟨none, 0, rfl, fun h => absurd h (by simp)⟩, by simp⟩
  · simp only [if_true] at hm
    have each : ∀ i, i < len → ∃ p : Value × List UInt8, W.cell? (a.add i) = some p.1 ∧ WindZ (memOf W) p.1 p.2 := fun i hi => by
      obtain ⟨h1, h2⟩ := hel i (by omega)
      obtain ⟨v, bs, h3, h4, _⟩ := open_bytes h2
      have h5 : V i = v := by simpa using h3
      exact ⟨(V i, bs), h1, by rw [h5]; exact h4⟩
    have inh : Inhabited (Value × List UInt8) := ⟨(.slice none 0 0, [])⟩
    obtain ⟨f, hf⟩ := Go.Deep.choose_lt each
    have hll : ((List.range len).map f).length = len := by simp
    refine ⟨_, (List.range len).map f, hcs, ⟨some a, cap, by rw [hll], fun hp => ?_⟩, fun p hp => ?_⟩
    · rw [hll] at hp
      obtain ⟨g, o, rfl, hc⟩ := cells_memOf (W := W) (a := a) (xs := ((List.range len).map f).map (·.1)) (fun j u hj => by
        have hjl : j < len := by
          have := (List.getElem?_eq_some_iff.1 hj).1
          simpa using this
        simp [List.getElem?_range hjl] at hj
        rw [(hf j hjl).1, hj]) (by simp; omega)
      exact ⟨g, o, rfl, hc⟩
    · obtain ⟨i, hi, rfl⟩ := List.mem_map.1 hp
      exact (hf i (List.mem_range.1 hi)).2
end

set_option maxRecDepth 100000 in
theorem bytesLifted (os : Os) (started : os.Started) (H : Type) (enc : TypeId × Value → H) :
    ReturnsInHanded {} Tryd.checked os 4 .any (fun w args => (Rows.filesBytesSpec.pre enc Tryd.prog Tryd.f4 [] false w args ∧ laidMetH Tryd.prog laidL w) ∧ sizedMet enc Tryd.prog Tryd.f4 (OpenSpec.ofChange Rows.filesBytesSpec) false w args)
      (Rows.filesBytesSpec.post enc Tryd.prog Tryd.f4 false true false false) := by
  refine returnsInHanded_of_change_and (C := Tryd.checked) (X := fun w _ => laidMetH Tryd.prog laidL w) (fun _ _ _ hh h => h.of_heap hh) la_own started (by kernel_rfl) Tryd.func4
    (ChangeSpec.witness_at (enc := enc) (C := Tryd.checked) (os := os) (X := fun w _ => laidMetH Tryd.prog laidL w) false (laidWorld os) #[.slice none 0 0, .slice none 0 0] 8 rfl (by kernel_rfl) (by kernel_rfl) (by kernel_rfl) (by kernel_rfl) (by kernel_rfl) (laidWorld_met os _)) ?_
  intro W base args ds gs before hval0 hW _ hz hL _
  have hval : ∀ (j : Nat) t v, Tryd.f4.params[j]? = some t → args[j]? = some v → Value.okWide Tryd.prog W .any base t v := hval0
  have hW' := hW
  obtain ⟨p, q, hA0, hV0, rfl, hfz, hnd⟩ := hW
  have hA : DataW.TrodAll enc Tryd.prog W 0 (fun _ => true) true Tryd.f4.params.toList args.toList ds p := hA0
  have hV : DataW.TrodVars enc Tryd.prog W (fun _ => true) [] gs q := hV0
  rw [Tryd.params4] at hA hval
  obtain ⟨v0, v1, d0, d1, p0, p1, rfl, rfl, rfl, h0, h1⟩ := trodAll_two hA
  obtain ⟨a0, len, cap, rfl⟩ := okWide_slice Tryd.underlying37 (hval 0 37 v0 rfl rfl)
  obtain ⟨a1, len1, cap1, rfl⟩ := okWide_slice Tryd.underlying38 (hval 1 38 v1 rfl rfl)
  have hg := glob_of_laid hL
  obtain ⟨rfl, rfl⟩ : gs = [] ∧ q = [] := by
    cases gs with
    | nil => exact ⟨rfl, hV⟩
    | cons g r => exact absurd hV (by intro h; cases h)
  have h0k := h0
  have h1k := h1
  obtain ⟨fuel, hf⟩ := h0
  obtain ⟨fuel1, hf1⟩ := h1
  clear hA0 hval0
  have hlt0 : ∀ x ∈ p0, x.block < W.heap.size := fun x hx => hW'.lt x (by simp [hx])
  have hlt1 : ∀ x ∈ p1, x.block < W.heap.size := fun x hx => hW'.lt x (by simp [hx])
  have hargs0 : ∀ (W' : World), Below W.heap.size W W' → DataW.Trod enc Tryd.prog W' 0 (fun b => decide (b < W.heap.size)) true 37 (.slice a0 len cap) d0 p0 :=
    fun W' hn => Below.trod by_laidOut (by kernel_rfl) (of_decide_eq_true (by kernel_rfl)) h0k hn hlt0
  have hargs1 : ∀ (W' : World), Below W.heap.size W W' → DataW.Trod enc Tryd.prog W' 0 (fun b => decide (b < W.heap.size)) true 38 (.slice a1 len1 cap1) d1 p1 :=
    fun W' hn => Below.trod by_laidOut (by kernel_rfl) (of_decide_eq_true (by kernel_rfl)) h1k hn hlt1
  have e1 : Rows.filesBytesSpec.fn H ([d0, d1] ++ []) = { results := [.lit (.bool true)], args := [d0, d1] } := by simp [Rows.filesBytesSpec]
  obtain ⟨v, zs, hcs, hpl⟩ := open_places hf
  obtain ⟨u, ps, hcs1, hpt, hwi⟩ := open_parts hf1
  have hcs' : Value.slice a0 len cap = v := by simpa [Value.cells] using hcs
  have hcs1' : Value.slice a1 len1 cap1 = u := by simpa [Value.cells] using hcs1
  subst hcs' hcs1'
  refine (bytes_any (.slice a0 len cap) (.slice a1 len1 cap1) zs ps W (memOf W) (has_memOf W) hg ⟨hpl, hpt, hwi⟩).mono fun e W' hp => ?_
  obtain ⟨v, m', rfl, lm, hm', hn', rfl⟩ := hp
  have hb := below_of lm hm' hn'
  refine ⟨_, rfl, _, _, _, [], p0 ++ p1, [], hW', ?_, ?_, ?_, hb.frame _, fun h => by cases h⟩
  · rw [e1]; exact trodAll_mk1 (shut_bool Tryd.underlying4 true)
  · rw [e1]; exact trodAll_mk2 (hargs0 _ hb) (hargs1 _ hb)
  · rw [e1]; rfl

theorem bytesHolds : Rows.FilesBytesSaid :=
  OpenClaim.holds_of_wide 4 Tryd.f4 rfl rfl rfl rfl rfl rfl rfl ⟨rfl, rfl, rfl, rfl, rfl⟩ rfl rfl rfl rfl rfl (by kernel_rfl) Tryd.func4 (by kernel_rfl)
    (of_decide_eq_true (by kernel_rfl)) (by unfold Func.isWrapper; rw [if_neg (of_decide_eq_false (by kernel_rfl))]; exact ⟨rfl, rfl⟩)
    (fun os started H enc _ => bytesLifted os started H enc)

theorem bytesRowTie : Rows.filesBytesRow.laidByTextAt .later Tryd.pinned [.handle] true :=
  OpenClaim.laidByTextAt_later rfl rfl tie (by kernel_rfl)

theorem bytesCardHolds : Rows.FilesBytesCardSaid :=
  Claim7.holds_tied_plain_at .later [] [.handle] true (true, "1b363c83426b849b1b3826223b42bbd010698d321259e9ff8453b5ae7af19c70") true
    bytesHolds (fun _ h => by cases h) (by kernel_rfl) (fun _ h => by cases h) bytesRowTie rfl ⟨rfl, rfl⟩ (by kernel_rfl) rfl
    (fun f fn hf hfn => by
      obtain rfl : f = 4 := Option.some.inj ((show Tryd.prog.funcNamed "bobbin/bobbinlaw13.FilesBytes" = some 4 by kernel_rfl).symm.trans hf) |>.symm
      obtain rfl : fn = Tryd.f4 := (Option.some.inj (Tryd.func4.symm.trans hfn)).symm
      exact ⟨by kernel_rfl, fun j t ht => by
        rw [Tryd.params4] at ht
        have h3 : t = 37 ∨ t = 38 := by
          rcases j with _ | _ | j
          · simp at ht; exact .inl ht.symm
          · simp at ht; exact .inr ht.symm
          · simp at ht
        rcases h3 with rfl | rfl
        · exact (show Tryd.prog.wantsStandIn 37 = false by kernel_rfl)
        · exact (show Tryd.prog.wantsStandIn 38 = false by kernel_rfl)⟩)
    (by kernel_rfl)
#print axioms bytesCardHolds
end Go.Proofs.YtcdmdkgiabfbeaaDoor

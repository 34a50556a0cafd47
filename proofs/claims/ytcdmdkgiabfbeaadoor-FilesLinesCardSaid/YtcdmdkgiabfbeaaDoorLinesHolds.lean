/-
  FilesLines: the row and its tied card.
-/
import Derived.Test.YtcdmdkgiabfbeaaDoorLines
import Derived.Test.YtcdmdkgiabfbeaaDoorLaid
import Derived.Test.YtcdmdkgiabfbeaaDoorCards
import Derived.Test.YtcdmdkgiabfbeaaDoorTie
import Derived.SliceStrings
import Derived.Below
import Derived.Carry
import Derived.SevenTiedAt
namespace Go.Proofs.YtcdmdkgiabfbeaaDoor
open Go.ChangeShapes Go.WideShapes Go.RowKit

theorem li_laidOut : laidOutB Tryd.prog = true := by kernel_rfl
theorem li_cellsS : Tryd.prog.cellsOf 9 = 1 := by kernel_rfl

set_option maxRecDepth 100000 in
theorem linesLifted (os : Os) (started : os.Started) (H : Type) (enc : TypeId × Value → H) :
    ReturnsInHanded {} Tryd.checked os 3 .any (fun w args => (Rows.filesLinesSpec.pre enc Tryd.prog Tryd.f3 [] false w args ∧ laidMetH Tryd.prog laidL w) ∧ sizedMet enc Tryd.prog Tryd.f3 (OpenSpec.ofChange Rows.filesLinesSpec) false w args)
      (Rows.filesLinesSpec.post enc Tryd.prog Tryd.f3 false true false false) := by
  refine returnsInHanded_of_change_and (C := Tryd.checked) (X := fun w _ => laidMetH Tryd.prog laidL w) (fun _ _ _ hh h => h.of_heap hh) la_own started (by kernel_rfl) Tryd.func3
    (ChangeSpec.witness_at (enc := enc) (C := Tryd.checked) (os := os) (X := fun w _ => laidMetH Tryd.prog laidL w) false (laidWorld os) #[.slice none 0 0, .bool false] 8 rfl (by kernel_rfl) (by kernel_rfl) (by kernel_rfl) (by kernel_rfl) (by kernel_rfl) (laidWorld_met os _)) ?_
  intro W base args ds gs before hval0 hW _ _ hL _
  have hval : ∀ (j : Nat) t v, Tryd.f3.params[j]? = some t → args[j]? = some v → Value.okWide Tryd.prog W .any base t v := hval0
  have hW' := hW
  obtain ⟨p, q, hA0, hV0, rfl, hfz, hnd⟩ := hW
  have hA : DataW.TrodAll enc Tryd.prog W 0 (fun _ => true) true Tryd.f3.params.toList args.toList ds p := hA0
  have hV : DataW.TrodVars enc Tryd.prog W (fun _ => true) [] gs q := hV0
  rw [Tryd.params3] at hA hval
  obtain ⟨v0, v1, d0, d1, p0, p1, rfl, rfl, rfl, h0, h1⟩ := trodAll_two hA
  obtain ⟨be, rfl, rfl, rfl⟩ := open_bool Tryd.underlying4 (hval 1 4 v1 rfl rfl) h1
  obtain ⟨a0, len, cap, rfl⟩ := okWide_slice Tryd.underlying22 (hval 0 22 v0 rfl rfl)
  have hg := glob_of_laid hL
  obtain ⟨rfl, rfl⟩ : gs = [] ∧ q = [] := by
    cases gs with
    | nil => exact ⟨rfl, hV⟩
    | cons g r => exact absurd hV (by intro h; cases h)
  have h0k := h0
  obtain ⟨fuel, hf⟩ := h0
  clear hA0 hval0
  have hlt : ∀ x ∈ p0, x.block < W.heap.size := fun x hx => hW'.lt x (by simp [hx])
  have hargs : ∀ (W' : World), Below W.heap.size W W' → DataW.Trod enc Tryd.prog W' 0 (fun b => decide (b < W.heap.size)) true 22 (.slice a0 len cap) d0 p0 :=
    fun W' hn => Below.trod li_laidOut (by kernel_rfl) (of_decide_eq_true (by kernel_rfl)) h0k hn hlt
  have e1 : Rows.filesLinesSpec.fn H ([d0, .lit (.bool be)] ++ []) = { results := [.lit (.bool true)], args := [d0, .lit (.bool be)] } := by simp [Rows.filesLinesSpec]
  obtain ⟨ss, hlen, hss⟩ : ∃ ss : List ByteArray, ss.length = len ∧ (0 < ss.length → ∃ g o, a0 = some ⟨g, o, none⟩ ∧ Cells (memOf W) g o (ss.map Value.string)) := by
    rcases open_strings Tryd.underlying22 Tryd.underlying9 li_cellsS hf with ⟨hcs, hx⟩ | ⟨a, len', cap', ss, hcs, _, hl, hm, hz, hx, hcell, hws⟩
    · simp [Value.cells] at hcs
      obtain ⟨rfl, rfl, rfl⟩ := hcs
      exact ⟨[], rfl, fun h => absurd h (by simp)⟩
    · simp [Value.cells] at hcs
      obtain ⟨rfl, rfl, rfl⟩ := hcs
      have hsl : len ≤ ss.length := by
        rw [hz]; split <;> omega
      refine ⟨ss.take len, by simp; omega, fun hp => ?_⟩
      have hp' : 0 < len := by simp at hp; omega
      obtain ⟨ab, ao, asp⟩ := a
      have h00 := hcell 0 (by omega)
      cases asp with
      | some sp =>
        exfalso
        simp only [Addr.add, if_true, World.cell?] at h00
        split at h00 <;> simp at h00
      | none =>
        have hadd : ∀ j, (⟨ab, ao, none⟩ : Addr).add j = ⟨ab, ao + j, none⟩ := fun j => by unfold Addr.add; split <;> simp_all
        refine ⟨ab, ao, rfl, ?_⟩
        cases ho : W.heap[ab]? with
        | none => rw [hadd] at h00; simp [World.cell?, ho] at h00
        | some o =>
          cases o with
          | cells c e fz =>
            refine ⟨c, e, fz, ho, fun j u hj => ?_⟩
            rw [List.getElem?_map, List.getElem?_take] at hj
            split at hj
            · rename_i hjl
              have hc := hcell j (by omega)
              rw [hadd] at hc
              simp only [World.cell?, ho] at hc
              rw [List.getElem?_eq_getElem (by omega)] at hj
              rw [List.getD_eq_getElem?_getD, List.getElem?_eq_getElem (by omega)] at hc
              simp at hj hc
              rw [← hj]; exact hc
            · cases hj
          | _ => rw [hadd] at h00; simp [World.cell?, ho] at h00
  subst hlen
  refine (lines_any a0 cap ss be W (memOf W) (has_memOf W) hg hss).mono fun e W' hp => ?_
  obtain ⟨v, m', rfl, lm, hm', hn', rfl⟩ := hp
  have hb := below_of lm hm' hn'
  refine ⟨_, rfl, _, _, _, [], p0 ++ [], [], hW', ?_, ?_, ?_, hb.frame _, fun h => by cases h⟩
  · rw [e1]; exact trodAll_mk1 (shut_bool Tryd.underlying4 true)
  · rw [e1]; exact trodAll_mk2 (hargs _ hb) (shut_bool Tryd.underlying4 be)
  · rw [e1]; rfl

theorem linesHolds : Rows.FilesLinesSaid :=
  OpenClaim.holds_of_wide 3 Tryd.f3 rfl rfl rfl rfl rfl rfl rfl ⟨rfl, rfl, rfl, rfl, rfl⟩ rfl rfl rfl rfl rfl (by kernel_rfl) Tryd.func3 (by kernel_rfl)
    (of_decide_eq_true (by kernel_rfl)) (by unfold Func.isWrapper; rw [if_neg (of_decide_eq_false (by kernel_rfl))]; exact ⟨rfl, rfl⟩)
    (fun os started H enc _ => linesLifted os started H enc)

theorem linesRowTie : Rows.filesLinesRow.laidByTextAt .later Tryd.pinned [.handle] true :=
  OpenClaim.laidByTextAt_later rfl rfl tie (by kernel_rfl)

theorem linesCardHolds : Rows.FilesLinesCardSaid :=
  Claim7.holds_tied_plain_at .later [] [.handle] true (true, "1b363c83426b849b1b3826223b42bbd010698d321259e9ff8453b5ae7af19c70") true
    linesHolds (fun _ h => by cases h) (by kernel_rfl) (fun _ h => by cases h) linesRowTie rfl ⟨rfl, rfl⟩ (by kernel_rfl) rfl
    (fun f fn hf hfn => by
      obtain rfl : f = 3 := Option.some.inj ((show Tryd.prog.funcNamed "bobbin/bobbinlaw13.FilesLines" = some 3 by kernel_rfl).symm.trans hf) |>.symm
      obtain rfl : fn = Tryd.f3 := (Option.some.inj (Tryd.func3.symm.trans hfn)).symm
      exact ⟨by kernel_rfl, fun j t ht => by
        rw [Tryd.params3] at ht
        have h3 : t = 22 ∨ t = 4 := by
          rcases j with _ | _ | j
          · simp at ht; exact .inl ht.symm
          · simp at ht; exact .inr ht.symm
          · simp at ht
        rcases h3 with rfl | rfl
        · exact (show Tryd.prog.wantsStandIn 22 = false by kernel_rfl)
        · exact (show Tryd.prog.wantsStandIn 4 = false by kernel_rfl)⟩)
    (by kernel_rfl)
#print axioms linesCardHolds
end Go.Proofs.YtcdmdkgiabfbeaaDoor

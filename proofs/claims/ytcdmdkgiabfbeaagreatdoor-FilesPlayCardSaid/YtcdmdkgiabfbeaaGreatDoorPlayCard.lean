/-
  FilesPlay: the row and its tied card.
-/
import Derived.Test.YtcdmdkgiabfbeaaGreatDoorK28
import Derived.Test.YtcdmdkgiabfbeaaGreatDoorCards
import Derived.Test.YtcdmdkgiabfbeaaGreatDoorTie
import Derived.Below
import Derived.Carry
import Derived.SevenTiedAt
namespace Go.Proofs.YtcdmdkgiabfbeaaGreatDoor
open Go.ChangeShapes Go.WideShapes Go.RowKit

theorem pl_laidOut : laidOutB Tryz.prog = true := by kernel_rfl

set_option maxRecDepth 100000 in
theorem playLifted (os : Os) (started : os.Started) (H : Type) (enc : TypeId × Value → H) :
    ReturnsInHanded {} Tryz.checked os 5 .any (fun w args => (Rows.filesPlaySpec.pre enc Tryz.prog Tryz.f5 [] false w args ∧ laidMetH Tryz.prog laidL w) ∧ sizedMet enc Tryz.prog Tryz.f5 (OpenSpec.ofChange Rows.filesPlaySpec) false w args)
      (Rows.filesPlaySpec.post enc Tryz.prog Tryz.f5 false true false false) := by
  refine returnsInHanded_of_change_and (C := Tryz.checked) (X := fun w _ => laidMetH Tryz.prog laidL w) (fun _ _ _ hh h => h.of_heap hh) la_own started (by kernel_rfl) Tryz.func5
    (ChangeSpec.witness_at (enc := enc) (C := Tryz.checked) (os := os) (X := fun w _ => laidMetH Tryz.prog laidL w) false (laidWorld os) #[.slice none 0 0, .slice none 0 0, .slice none 0 0] 8 rfl (by kernel_rfl) (by kernel_rfl) (by kernel_rfl) (by kernel_rfl) (by kernel_rfl) (laidWorld_met os _)) ?_
  intro W base args ds gs before hval0 hW _ hz hL _
  have hval : ∀ (j : Nat) t v, Tryz.f5.params[j]? = some t → args[j]? = some v → Value.okWide Tryz.prog W .any base t v := hval0
  have hW' := hW
  obtain ⟨p, q, hA0, hV0, rfl, hfz, hnd⟩ := hW
  have hA : DataW.TrodAll enc Tryz.prog W 0 (fun _ => true) true Tryz.f5.params.toList args.toList ds p := hA0
  have hV : DataW.TrodVars enc Tryz.prog W (fun _ => true) [] gs q := hV0
  rw [Tryz.params5] at hA hval hz
  obtain ⟨v0, v1, v2, d0, d1, d2, p0, p1, p2, rfl, rfl, rfl, h0, h1, h2⟩ := trodAll_three hA
  have hg := glob_of_laid hL
  obtain ⟨rfl, rfl⟩ : gs = [] ∧ q = [] := by
    cases gs with
    | nil => exact ⟨rfl, hV⟩
    | cons g r => exact absurd hV (by intro h; cases h)
  have h0k := h0
  have h1k := h1
  have h2k := h2
  obtain ⟨fuel0, hf0⟩ := h0
  obtain ⟨fuel1, hf1⟩ := h1
  obtain ⟨fuel2, hf2⟩ := h2
  have hlt : ∀ x ∈ p0 ++ p1 ++ p2, x.block < W.heap.size := fun x hx => hW'.lt x (by simpa using hx)
  have hlt0 : ∀ x ∈ p0, x.block < W.heap.size := fun x hx => hlt x (by simp [hx])
  have hlt1 : ∀ x ∈ p1, x.block < W.heap.size := fun x hx => hlt x (by simp [hx])
  have hlt2 : ∀ x ∈ p2, x.block < W.heap.size := fun x hx => hlt x (by simp [hx])
  have hb0 : ∀ (W' : World), Below W.heap.size W W' → DataW.Trod enc Tryz.prog W' 0 (fun b => decide (b < W.heap.size)) true 40 v0 d0 p0 :=
    fun W' hn => Below.trod pl_laidOut (by kernel_rfl) (of_decide_eq_true (by kernel_rfl)) h0k hn hlt0
  have hb1 : ∀ (W' : World), Below W.heap.size W W' → DataW.Trod enc Tryz.prog W' 0 (fun b => decide (b < W.heap.size)) true 48 v1 d1 p1 :=
    fun W' hn => Below.trod pl_laidOut (by kernel_rfl) (of_decide_eq_true (by kernel_rfl)) h1k hn hlt1
  have hb2 : ∀ (W' : World), Below W.heap.size W W' → DataW.Trod enc Tryz.prog W' 0 (fun b => decide (b < W.heap.size)) true 22 v2 d2 p2 :=
    fun W' hn => Below.trod pl_laidOut (by kernel_rfl) (of_decide_eq_true (by kernel_rfl)) h2k hn hlt2
  have e1 : Rows.filesPlaySpec.fn H ([d0, d1, d2] ++ []) = { results := [.lit (.bool true)], args := [d0, d1, d2] } := by simp [Rows.filesPlaySpec]
  have hz' := List.all_eq_true.1 hz
  obtain ⟨a0, l0, c0, rfl⟩ := okWide_slice Tryz.underlying40 (hval 0 40 v0 rfl rfl)
  obtain ⟨a1, l1, c1, rfl⟩ := okWide_slice Tryz.underlying48 (hval 1 48 v1 rfl rfl)
  obtain ⟨a2, l2, c2, rfl⟩ := okWide_slice Tryz.underlying22 (hval 2 22 v2 rfl rfl)
  obtain ⟨fv, fl, hcf, hff, hfl, hfs⟩ := open_files hf0 (fun n hn => by
    have := hz' n (DataW.weights_mem_each (j := 0) (t := 40) (d := d0) rfl rfl n hn)
    simpa using this)
  obtain ⟨xv, xl, hcx, hxx, hxl⟩ := open_fails hf1 (fun n hn => by
    have := hz' n (DataW.weights_mem_each (j := 1) (t := 48) (d := d1) rfl rfl n hn)
    simpa using this)
  obtain ⟨lv, sl, hcs, hst⟩ := open_steps hf2 (fun n hn => by
    have := hz' n (DataW.weights_mem_each (j := 2) (t := 22) (d := d2) rfl rfl n hn)
    simpa using this)
  have hcf' : Value.slice a0 l0 c0 = fv := by simpa [Value.cells] using hcf
  have hcx' : Value.slice a1 l1 c1 = xv := by simpa [Value.cells] using hcx
  have hcs' : Value.slice a2 l2 c2 = lv := by simpa [Value.cells] using hcs
  subst hcf' hcx' hcs'
  clear hA0 hval0
  refine (play_any _ _ _ fl xl sl W (memOf W) (has_memOf W) hg hff hfl hfs hxx hxl hst).mono fun e W' hp => ?_
  obtain ⟨v, m', rfl, lm, hm', hn', rfl⟩ := hp
  have hb := below_of lm hm' hn'
  refine ⟨_, rfl, _, _, _, [], p0 ++ (p1 ++ p2), [], hW', ?_, ?_, ?_, hb.frame _, fun h => by cases h⟩
  · rw [e1]; exact trodAll_mk1 (shut_bool Tryz.underlying4 true)
  · rw [e1]; exact trodAll_mk3 (hb0 _ hb) (hb1 _ hb) (hb2 _ hb)
  · rw [e1]; rfl

theorem playHolds : Rows.FilesPlaySaid :=
  OpenClaim.holds_of_wide 5 Tryz.f5 rfl rfl rfl rfl rfl rfl rfl ⟨rfl, rfl, rfl, rfl, rfl⟩ rfl rfl rfl rfl rfl (by kernel_rfl) Tryz.func5 (by kernel_rfl)
    (of_decide_eq_true (by kernel_rfl)) (by unfold Func.isWrapper; rw [if_neg (of_decide_eq_false (by kernel_rfl))]; exact ⟨rfl, rfl⟩)
    (fun os started H enc _ => playLifted os started H enc)

theorem playRowTie : Rows.filesPlayRow.laidByTextAt .later Tryz.pinned [.handle] true :=
  OpenClaim.laidByTextAt_later rfl rfl tie (by kernel_rfl)

theorem playCardHolds : Rows.FilesPlayCardSaid :=
  Claim7.holds_tied_plain_at .later [] [.handle] true (true, "8acb15f038a0d229353776475dcd431a7e819712257e96ddd5b4fdd833e95b5c") true
    playHolds (fun _ h => by cases h) (by kernel_rfl) (fun _ h => by cases h) playRowTie rfl ⟨rfl, rfl⟩ (by kernel_rfl) rfl
    (fun f fn hf hfn => by
      obtain rfl : f = 5 := Option.some.inj ((show Tryz.prog.funcNamed "bobbin/bobbinlaw13.FilesPlay" = some 5 by kernel_rfl).symm.trans hf) |>.symm
      obtain rfl : fn = Tryz.f5 := (Option.some.inj (Tryz.func5.symm.trans hfn)).symm
      exact ⟨by kernel_rfl, fun j t ht => by
        rw [Tryz.params5] at ht
        have h3 : t = 40 ∨ t = 48 ∨ t = 22 := by
          rcases j with _ | _ | _ | j
          · simp at ht; exact .inl ht.symm
          · simp at ht; exact .inr (.inl ht.symm)
          · simp at ht; exact .inr (.inr ht.symm)
          · simp at ht
        rcases h3 with rfl | rfl | rfl
        · exact (show Tryz.prog.wantsStandIn 40 = false by kernel_rfl)
        · exact (show Tryz.prog.wantsStandIn 48 = false by kernel_rfl)
        · exact (show Tryz.prog.wantsStandIn 22 = false by kernel_rfl)⟩)
    (by kernel_rfl)
#print axioms playCardHolds
end Go.Proofs.YtcdmdkgiabfbeaaGreatDoor

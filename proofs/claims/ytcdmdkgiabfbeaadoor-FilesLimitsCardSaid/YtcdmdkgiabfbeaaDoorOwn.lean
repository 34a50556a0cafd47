/-
  A store that was made since: what was known ahead of it stays, whatever is done to it. And a string out of bytes.
-/
import Derived.Test.YtcdmdkgiabfbeaaDoorNew
import Derived.Test.YtcdmdkgiabfbeaaDoorOpen
import Derived.Test.YtcdmdkgiabfbeaaDoorSeek
import Derived.Test.YtcdmdkgiabfbeaaDoorLineOp
import Derived.Test.YtcdmdkgiabfbeaaDoorWriteOp
import Derived.Laws.BytesArg
namespace Go.Proofs.YtcdmdkgiabfbeaaDoor
open Go.RowKit

structure Own (m : Mem) (sb : Nat) (g : G) (mc : Mem) : Prop where
  le : m.le mc
  rep : SRep mc sb g
  new : ∀ b, FP sb g b → m b = none

theorem Own.grow {m mc mc' : Mem} {sb : Nat} {g : G} (h : Own m sb g mc) (l : mc.le mc') : Own m sb g mc' := ⟨Mem.le_trans h.le l, h.rep.le l, h.new⟩
theorem Own.zero {m mc : Mem} {sb : Nat} {g : G} (h : Own m sb g mc) (hG : GlobOk m) : ¬ FP sb g 0 := fun hp => by
  obtain ⟨c, e, fz, h1, _⟩ := hG
  have := h.new 0 hp
  rw [h1] at this; cases this
theorem Own.glob {m mc : Mem} {sb : Nat} {g : G} (h : Own m sb g mc) (hG : GlobOk m) : GlobOk mc := hG.le h.le

theorem Own.step {β : Type} {m mc m2 : Mem} {sb : Nat} {g : G} {F : A × Int × β} {X : Mem → β → Prop} {x : Int} (h : Own m sb g mc) (o : OpR mc sb g (fun _ => False) F X m2 x) :
    ∃ g2, Own m sb g2 m2 ∧ g2.abs = F.1 ∧ x = F.2.1 ∧ X m2 F.2.2 := by
  obtain ⟨g2, h1, h2, h3, h4, h5⟩ := o
  refine ⟨g2, ⟨fun b o hb => h2.keep b o (h.le _ _ hb) ?_, h1, fun b hb => ?_⟩, h3, h4, h5⟩
  · rintro (x | x)
    · rw [h.new b x] at hb; cases hb
    · exact x
  · rcases h2.new b hb with (x | x) | x
    · exact h.new b x
    · exact x.elim
    · exact Mem.none_le h.le x

/-- A store as New makes it. -/
def A0 (fl : List File2) (xl : List Fail3) : A := { look := fun s => (fl.find? fun f => decide (s = f.1)).map fun f => f.2.data.toList, count := fl.length, hnd := fun _ => none, fails := xl, n := 0 }

theorem look_list : ∀ (L : List Ent) (fl : List File2), L.map (fun e => (e.name, e.bs)) = fl.map (fun f => (f.1, f.2.data.toList)) → ∀ s, (getE L s).map (·.bs) = (fl.find? fun f => decide (s = f.1)).map fun f => f.2.data.toList
  | [], [], _, s => rfl
  | [], _ :: _, h, _ => by cases h
  | _ :: _, [], h, _ => by cases h
  | e :: L, f :: fl, h, s => by
    simp only [List.map_cons, List.cons.injEq, Prod.mk.injEq] at h
    have ih := look_list L fl h.2 s
    unfold getE at ih ⊢
    rw [List.find?_cons, List.find?_cons, h.1.1]
    by_cases hs : s = f.1
    · simp [hs, h.1.2]
    · simp only [hs, decide_false]; exact ih

theorem abs_new {g : G} {fl : List File2} {xl : List Fail3} (h1 : g.L.map (fun e => (e.name, e.bs)) = fl.map (fun f => (f.1, f.2.data.toList))) (h2 : g.O = []) (h3 : g.fails = xl) (h4 : g.n = 0) : g.abs = A0 fl xl := by
  have hl : g.L.length = fl.length := by have := congrArg List.length h1; simpa using this
  simp only [G.abs, A0, A.mk.injEq, h3, h4, and_true, hl, true_and]
  refine ⟨?_, ?_⟩
  · funext s; exact look_list g.L fl h1 s
  · funext i; rw [h2]; rfl

theorem NewR.own {m m' : Mem} {fl : List File2} {xl : List Fail3} {v : Value} (h : NewR m fl xl v m') (l : m.le m') (h0 : newE fl xl.length = 0) :
    ∃ sb g, v = .tuple #[.pointer (some ⟨sb, 0, none⟩), .int .i64 0] ∧ Own m sb g m' ∧ g.abs = A0 fl xl := by
  obtain ⟨sb, g, h1, h2, h3, h4, h5, h6, h7⟩ := h.1 h0
  exact ⟨sb, g, h1, ⟨l, h2, h3⟩, abs_new h4 h5 h6 h7⟩

theorem isNameB_eq (s : ByteArray) : isNameB s = (decide (0 < s.size) && decide (s.size ≤ 255)) := by
  unfold isNameB
  have h : s.toList = s.data.toList := ByteArray.toList_eq s
  rw [h]
  have hs : s.size = s.data.toList.length := (Array.length_toList).symm
  rw [Bool.eq_iff_iff]
  simp only [Bool.and_eq_true, Bool.not_eq_true', decide_eq_true_eq, List.isEmpty_eq_false_iff, hs]
  constructor
  · rintro ⟨h1, h2⟩
    exact ⟨List.length_pos_iff.2 h1, by omega⟩
  · rintro ⟨h1, h2⟩
    exact ⟨List.length_pos_iff.1 h1, by omega⟩

/-- 'string(b)'. -/
theorem conv_back {m : Mem} {v : Value} {bs : List UInt8} (h : Wind m v bs) (w : World) (hm : Has w m) : (convert 33 9 v).run Tryd.prog w = .ok (.string ⟨bs.toArray⟩) w := by
  rcases h with ⟨rfl, rfl⟩ | ⟨g, o, cap, rfl, _, _, hc⟩
  · rw [run_convert_bytes_nil w 33 5 Tryd.underlying33 Tryd.underlying5 0 0 9 Tryd.underlying9]
    rfl
  · have hcw := hc.at hm
    have hadd : ∀ j, (⟨g, o, none⟩ : Addr).add j = ⟨g, o + j, none⟩ := fun j => by unfold Addr.add; split <;> simp_all
    have := run_convert_bytes_arg (P := Tryd.prog) w 33 5 Tryd.underlying33 Tryd.underlying5 g o bs.length cap (bs.map fun x => (x.toNat : Int)) (by simp) (fun i hi => by
      rw [← hadd]
      exact hcw i _ (by simp [hi, byteV, List.getD_eq_getElem?_getD])) 9 Tryd.underlying9
    rw [this]
    have hb := bytes_back bs
    unfold Lib.bytesOf at hb
    unfold strOfNums
    rw [hb]
end Go.Proofs.YtcdmdkgiabfbeaaDoor

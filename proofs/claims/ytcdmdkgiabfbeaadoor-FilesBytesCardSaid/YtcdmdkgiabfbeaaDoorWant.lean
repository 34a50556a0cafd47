/-
  A store that was made since, beside a slice of bytes that was made since: what each step leaves of both.
-/
import Derived.Test.YtcdmdkgiabfbeaaDoorBytesLaw
namespace Go.Proofs.YtcdmdkgiabfbeaaDoor
open Go.RowKit

structure WS (m0 : Mem) (sb : Nat) (g : G) (mc : Mem) (wv : Value) (ws : List UInt8) : Prop where
  own : Own m0 sb g mc
  row : Row mc wv 5 1 ws.length (ws.map byteV)
  new : ∀ b, wv.ownBlock = some b → m0 b = none ∧ ¬ FP sb g b

theorem WS.step {β : Type} {m0 mc m2 : Mem} {sb : Nat} {g : G} {wv : Value} {ws : List UInt8} {F : A × Int × β} {X : Mem → β → Prop} {x : Int} (h : WS m0 sb g mc wv ws) (o : OpR mc sb g (fun _ => False) F X m2 x) :
    ∃ g2, WS m0 sb g2 m2 wv ws ∧ g2.abs = F.1 ∧ x = F.2.1 ∧ X m2 F.2.2 := by
  have o' := o
  obtain ⟨g2, h1, h2, h3, h4, h5⟩ := o
  refine ⟨g2, ⟨⟨fun b ob hb => h2.keep b ob (h.own.le _ _ hb) ?_, h1, fun b hb => ?_⟩, h.row.keep fun b ob hb hm => h2.keep b ob hm ?_, fun b hb => ⟨(h.new b hb).1, fun hp => ?_⟩⟩, h3, h4, h5⟩
  · rintro (x | x)
    · rw [h.own.new b x] at hb; cases hb
    · exact x
  · rcases h2.new b hb with (x | x) | x
    · exact h.own.new b x
    · exact x.elim
    · exact Mem.none_le h.own.le x
  · rintro (x | x)
    · exact (h.new b hb).2 x
    · exact x
  · obtain ⟨cap, cur, fz, _, hg, _⟩ := h.row.own hb
    rcases h2.new b hp with (x | x) | x
    · exact (h.new b hb).2 x
    · exact x.elim
    · rw [hg] at x; cases x

theorem WS.grow {m0 mc mc' : Mem} {sb : Nat} {g : G} {wv : Value} {ws : List UInt8} (h : WS m0 sb g mc wv ws) (l : mc.le mc') : WS m0 sb g mc' wv ws := ⟨h.own.grow l, h.row.le l, h.new⟩

/-- The slice grows, or is written to. -/
theorem WS.turn {m0 mc m2 : Mem} {sb : Nat} {g : G} {wv wv' : Value} {ws ws' : List UInt8} (h : WS m0 sb g mc wv ws) (gr : Grows mc m2 wv wv') (row : Row m2 wv' 5 1 ws'.length (ws'.map byteV)) : WS m0 sb g m2 wv' ws' := by
  refine ⟨⟨fun b o hb => gr.keep (h.own.le _ _ hb) fun hv => ?_, h.own.rep.keep fun b o hp hm => gr.keep hm fun hv => (h.new b hv).2 hp, h.own.new⟩, row, fun b hb => ?_⟩
  · rw [(h.new b hv).1] at hb; cases hb
  · rcases gr with ⟨_, h2⟩ | ⟨gb, o, h2, _, h4⟩
    · rw [h2] at hb; exact h.new b hb
    · rw [hb] at h2
      obtain rfl := Option.some.inj h2
      rcases h4 with h4 | h4
      · exact h.new b h4
      · exact ⟨Mem.none_le h.own.le h4, h.own.rep.unknown h4⟩

theorem WS.nil {m0 mc : Mem} {sb : Nat} {g : G} (h : Own m0 sb g mc) : WS m0 sb g mc (.slice none 0 0) [] := ⟨h, Row.nil _ _ _, fun b hb => by cases hb⟩

/-- One byte more. -/
theorem WS.app {m0 mc : Mem} {sb : Nat} {g : G} {wv : Value} {ws : List UInt8} (h : WS m0 sb g mc wv ws) (x : UInt8) (ty : TypeId) (b : Nat) (w : World) (hw : Has w mc) (hc : Cells mc b 0 [byteV x]) (hl : ws.length ≤ 1000000) :
    ∃ v' w' m', (Builtin.append_ #[33, 33] ty #[wv, .slice (some ⟨b, 0, none⟩) 1 1]).run Tryd.prog w = .ok v' w' ∧ Env w w' ∧ Has w' m' ∧ WS m0 sb g m' v' (ws ++ [x]) := by
  obtain ⟨i0, hi, hz0, hz1, hz2⟩ := info_parts infoB
  obtain ⟨v', w2, m2, hrun, he2, hh2, hrow2, hgr2⟩ := run_append_row (P := Tryd.prog) 33 ty 5 i0 (.int .u8 0) 1 1 Tryd.underlying33 hi hz0 hz1 hz2 rfl (by decide)
    hw wv ws.length (ws.map byteV) h.row b 0 1 1 [byteV x] rfl hc (by simp [Value.oneCell', byteV]) (by decide) (by omega) (by omega)
  exact ⟨v', w2, m2, hrun, he2, hh2, h.turn hgr2 (by simpa using hrow2)⟩

/-- One byte another. -/
theorem WS.put {m0 mc : Mem} {sb : Nat} {g : G} {a : Nat} {n c : Nat} {ws : List UInt8} (h : WS m0 sb g mc (.slice (some ⟨a, 0, none⟩) n c) ws) (x : UInt8) (j : Nat) (hj : j < ws.length) (w : World) (hw : Has w mc) :
    w.cell? ⟨a, j, none⟩ = some (byteV ws[j]) ∧ w.frozen? ⟨a, j, none⟩ = false ∧
    ∃ m', Has (w.setCell ⟨a, j, none⟩ (byteV x)) m' ∧ WS m0 sb g m' (.slice (some ⟨a, 0, none⟩) n c) (ws.set j x) := by
  obtain ⟨cap, cur, fz, hv, hg, hth, hnc, hcm, hcs, htk⟩ := h.row.own (b := a) rfl
  have hcj : ∀ i, i < ws.length → cur[i]? = (ws.map byteV)[i]? := fun i hi => by
    rw [← htk, List.getElem?_take, if_pos (by omega)]; simp
  have hn : n = ws.length := by simp only [Value.slice.injEq] at hv; exact hv.2.1
  have hcc : c = cap := by simp only [Value.slice.injEq] at hv; exact hv.2.2
  refine ⟨by rw [hw.cell hg, hcj j hj]; simp [hj], by simp only [World.frozen?, hw _ _ hg]; exact hth j (by omega), _, hw.store hg (byteV x), ?_⟩
  refine h.turn (.inr ⟨a, _, rfl, rfl, .inl rfl⟩) ⟨by simp, .inr ⟨a, cap, _, fz, by simp [hn, hcc], Mem.set_same _ _ _, hth.size (by simp), by simpa using hnc, hcm, by simpa using hcs, ?_⟩⟩
  apply List.ext_getElem?
  intro i
  rw [List.getElem?_take]
  by_cases hi : i < ws.length
  · rw [if_pos (by simpa using hi)]
    simp only [Array.getElem?_toList, Array.getElem?_setIfInBounds, List.getElem?_map, List.getElem?_set]
    by_cases e : j = i
    · subst e; rw [if_pos rfl, if_pos rfl, if_pos (by omega), if_pos hj]; rfl
    · rw [if_neg e, if_neg e, hcj i hi, List.getElem?_map]
  · rw [if_neg (by simpa using hi), List.getElem?_eq_none]
    simpa using hi
end Go.Proofs.YtcdmdkgiabfbeaaDoor

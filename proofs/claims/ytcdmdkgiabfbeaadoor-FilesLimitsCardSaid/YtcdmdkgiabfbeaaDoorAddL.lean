/-
  A store with one file more; a string's bytes in a block of their own.
-/
import Derived.Test.YtcdmdkgiabfbeaaDoorOp
import Derived.Laws.IdiomStrings
namespace Go.Proofs.YtcdmdkgiabfbeaaDoor
open Go.RowKit

theorem SRep.addL {m m' : Mem} {sb : Nat} {g : G} (r : SRep m sb g) (e : Ent) (hb : e.born = g.clock) (hkeep : ∀ b o, m b = some o → b ≠ g.mb → m' b = some o) (hmap : m' g.mb = some (mapObj (g.L ++ [e]) (g.clock + 1)))
    (hfile : m' e.fb = some (fileObj e)) (hrow : Row m' e.bv 5 1 e.bs.length (e.bs.map byteV)) (hfresh : m e.fb = none) (hown : ∀ b, e.bv.ownBlock = some b → m b = none) (hname : getE g.L e.name = none) (hnm : isNameB e.name = true)
    (hlen : g.L.length < 100) (hsz : e.bs.length ≤ 262144) : SRep m' sb { g with L := g.L ++ [e], clock := g.clock + 1 } := by
  have key : ∀ {b : Nat} {o : Obj}, m b = some o → (∀ L c, o ≠ mapObj L c) → m' b = some o := fun {b o} h1 h2 => hkeep b o h1 (fun h3 => by
    subst h3; rw [r.map] at h1; exact h2 _ _ (Option.some.inj h1).symm)
  have keyc : ∀ {b : Nat} {c : Array Value} {e : TypeId} {fz : Nat × Nat}, m b = some (.cells c e fz) → m' b = some (.cells c e fz) := fun h => key h (by simp [mapObj])
  have hno : ∀ d ∈ g.L, d.name ≠ e.name := fun d hd h => by
    have := getE_of r.names hd
    rw [h, hname] at this; cases this
  have hfbn : ∀ d ∈ g.L, d.fb ≠ e.fb := fun d hd h => by
    have := r.file d hd
    rw [h, hfresh] at this; cases this
  exact { r with
    store := keyc r.store
    map := hmap
    file := fun d hd => by
      rcases List.mem_append.1 hd with hd | hd
      · exact keyc (r.file d hd)
      · obtain rfl := List.mem_singleton.1 hd; exact hfile
    row := fun d hd => by
      rcases List.mem_append.1 hd with hd | hd
      · refine (r.row d hd).keep fun b o hb hm => ?_
        obtain ⟨cur, fz, hc⟩ := (r.row d hd).ty hb
        rw [hm] at hc
        obtain rfl := Option.some.inj hc
        exact keyc hm
      · obtain rfl := List.mem_singleton.1 hd; exact hrow
    names := by
      show ((g.L ++ [e]).map (·.name)).Nodup
      rw [List.map_append, List.nodup_append]
      refine ⟨r.names, by simp, fun a ha b hb => ?_⟩
      simp at hb
      subst hb
      obtain ⟨d, hd, rfl⟩ := List.mem_map.1 ha
      exact hno d hd
    fbs := by
      show ((g.L ++ [e]).map (·.fb)).Nodup
      rw [List.map_append, List.nodup_append]
      refine ⟨r.fbs, by simp, fun a ha b hb => ?_⟩
      simp at hb
      subst hb
      obtain ⟨d, hd, rfl⟩ := List.mem_map.1 ha
      exact hfbn d hd
    sep := fun d hd d' hd' hne b h1 h2 => by
      rcases List.mem_append.1 hd with hd1 | hd1 <;> rcases List.mem_append.1 hd' with hd2 | hd2
      · exact r.sep d hd1 d' hd2 hne b h1 h2
      · rw [List.mem_singleton.1 hd2] at h2
        obtain ⟨cur, fz, hc⟩ := (r.row d hd1).ty h1
        rw [hown b h2] at hc; cases hc
      · rw [List.mem_singleton.1 hd1] at h1
        obtain ⟨cur, fz, hc⟩ := (r.row d' hd2).ty h2
        rw [hown b h1] at hc; cases hc
      · exact hne (by rw [List.mem_singleton.1 hd1, List.mem_singleton.1 hd2])
    bornN := by
      show ((g.L ++ [e]).map (·.born)).Nodup
      rw [List.map_append, List.nodup_append]
      refine ⟨r.bornN, by simp, fun a ha b hb' => ?_⟩
      simp at hb'
      subst hb'
      obtain ⟨d, hd, rfl⟩ := List.mem_map.1 ha
      have := r.bornC d hd
      omega
    bornC := fun d hd => by
      show d.born < g.clock + 1
      rcases List.mem_append.1 hd with hd | hd
      · have := r.bornC d hd; omega
      · obtain rfl := List.mem_singleton.1 hd; omega
    fails := Row.keep r.fails fun b o hb hm => by
      obtain ⟨cur, fz, hc⟩ := Row.ty r.fails hb
      rw [hm] at hc
      obtain rfl := Option.some.inj hc
      exact keyc hm
    opens := r.opens.keep fun b o hb hm => by
      obtain ⟨cur, fz, hc⟩ := r.opens.ty hb
      rw [hm] at hc
      obtain rfl := Option.some.inj hc
      exact keyc hm
    hnd := fun h hh => keyc (r.hnd h hh)
    hof := fun h hh => by
      obtain ⟨d, hd, h1, h2⟩ := r.hof h hh
      exact ⟨d, by simp [hd], h1, h2⟩
    llen := by show (g.L ++ [e]).length ≤ 100; rw [List.length_append]; simp; omega
    nm := fun d hd => by
      rcases List.mem_append.1 hd with hd | hd
      · exact r.nm d hd
      · obtain rfl := List.mem_singleton.1 hd; exact hnm
    bsz := fun d hd => by
      rcases List.mem_append.1 hd with hd | hd
      · exact r.bsz d hd
      · obtain rfl := List.mem_singleton.1 hd; exact hsz }

theorem FP_addL {sb : Nat} {g : G} {e : Ent} {c : Nat} {b : Nat} (h : FP sb { g with L := g.L ++ [e], clock := c } b) : FP sb g b ∨ b = e.fb ∨ e.bv.ownBlock = some b := by
  rcases h with x | x | ⟨d, hd, x⟩ | x | x | x
  · exact .inl (.inl x)
  · exact .inl (.inr (.inl x))
  · rcases List.mem_append.1 hd with hd | hd
    · exact .inl (.inr (.inr (.inl ⟨d, hd, x⟩)))
    · obtain rfl := List.mem_singleton.1 hd
      rcases x with x | x
      · exact .inr (.inl x)
      · exact .inr (.inr x)
  · exact .inl (.inr (.inr (.inr (.inl x))))
  · exact .inl (.inr (.inr (.inr (.inr (.inl x)))))
  · exact .inl (.inr (.inr (.inr (.inr (.inr x)))))

theorem findAt_noneE {L : List Ent} {s : ByteArray} (h : getE L s = none) : findAt s L 0 = none := by
  have := findAt_get s L 0
  rw [h] at this
  cases hf : findAt s L 0 with
  | none => rfl
  | some p => rw [hf] at this; cases this

/-- '[]byte(s)'. -/
theorem conv_any (s : ByteArray) (w : World) (m : Mem) (hm : Has w m) (hs : s.size ≤ 1000000000) :
    ∃ a c w' m', (convert 9 33 (.string s)).run Tryd.prog w = .ok (.slice a s.size c) w' ∧ Env w w' ∧ Has w' m' ∧ m.le m' ∧ Row m' (.slice a s.size c) 5 1 s.size (s.data.toList.map byteV) ∧
      ∀ b, (Value.slice a s.size c).ownBlock = some b → m b = none := by
  have hr := run_bytes_of_string (P := Tryd.prog) w 9 33 5 s Tryd.underlying9 Tryd.underlying33 Tryd.underlying5
  have hge := grownCap_ge w s.size 0 5
  have hsz : s.data.toList.length = s.size := Array.length_toList
  have hML : maxLen = 9223372036854775807 := rfl
  have hfr := hm.fresh (Nat.le_refl w.heap.size)
  refine ⟨_, _, _, _, hr, (Env.refl w).drew.alloc _, hm.drew.alloc _, Mem.le_set _ _ hfr, ⟨by rw [List.length_map, hsz, Nat.mul_one], .inr ⟨w.heap.size, _, _, _, rfl, Mem.set_same _ _ _, ?_, hge, grownCap_le_maxLen w s.size 0 _ (by omega), ?_, ?_⟩⟩, fun b hb => ?_⟩
  · intro o ho
    simp; omega
  · simp [bytesRow]
    have : s.data.size = s.size := rfl
    omega
  · rw [Nat.mul_one]
    simp only [bytesRow, Array.toList_append, Array.toList_map]
    rw [List.take_append_of_le_length (by rw [List.length_map, hsz]; exact Nat.le_refl _), List.take_of_length_le (by rw [List.length_map, hsz]; exact Nat.le_refl _)]
    rfl
  · obtain rfl : w.heap.size = b := Option.some.inj hb
    exact hfr
end Go.Proofs.YtcdmdkgiabfbeaaDoor

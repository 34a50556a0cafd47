/-
  Create's question: is there no room?
-/
import Derived.Test.YtcdmdkgiabfbeaaGreatDoorK03
import Derived.Test.YtcdmdkgiabfbeaaGreatDoorK08
import Derived.Deep.RegionHeld3
namespace Go.Proofs.YtcdmdkgiabfbeaaGreatDoor
open Go.RowKit

/-- Create has no room. -/
def cfullB (g : G) (s : ByteArray) : Bool := fullB g.O || ((getE g.L s).isNone && decide (100 ≤ (g.L.length : Int)))

set_option maxHeartbeats 1000000 in
theorem cfull1_any (p q sb : Nat) (g : G) (s : ByteArray) (w : World) (m : Mem) (hm : Has w m) (hr : SRep m sb g) (hp : BoxS m p sb) (hq : BoxN m q s) :
    Calls Tryz.prog 26 #[.pointer (some ⟨p, 0, none⟩), .pointer (some ⟨q, 0, none⟩)] w (Post w m fun v _ => v = .bool (cfullB g s)) := by
  have c0 : w.cell? ⟨p, 0, none⟩ = some (.pointer (some ⟨sb, 0, none⟩)) := by rw [hm.cell hp]; rfl
  have c1 : w.cell? ⟨q, 0, none⟩ = some (.string s) := by rw [hm.cell hq]; rfl
  have c2 : w.cell? ⟨sb, 0, none⟩ = some (.map (some g.mb)) := by rw [hm.cell hr.store]; rfl
  have hlk : ∀ n, (Instr.lookup 68 (.map (some g.mb)) (.string s) false).run Tryz.prog (w.drewN n) = .ok (lookV g.L s) (w.drewN n) := fun n => run_lookupF g.mb g.clock g.L s _ (hm _ _ hr.map)
  have hln : ∀ n T, (Builtin.len_ #[68] T #[.map (some g.mb)]).run Tryz.prog (w.drewN n) = .ok (.int .i64 g.L.length) (w.drewN n) := fun n T => run_lenF g.mb g.clock g.L _ T (hm _ _ hr.map)
  have H := Lib.hid hm
  have HR := Lib.hid hr
  have hll := hr.llen
  clear hm hr hp hq
  cases hb : fullB g.O with
  | true =>
    have hd : decide (32 ≤ (nOpen g.O : Int)) = true := hb
    have HV : Hid (cfullB g s = true) := by show _ = _; rw [cfullB, hb]; rfl
    rw [HV.out]
    clear hb
    go_enter Tryz.func26, Tryz.ntmps26
    go_wp2_with fail
    go_quiet ((go_at_call 27; exact Calls.quiet_of_same (many_same sb g _ _ (H.out.drewN _) HR.out)))
    go_wp2_with fail
    go_ret
    exact Post.mk m (Mem.le_refl _) (H.out.drewN _) ((Env.refl w).drewN _) rfl
  | false =>
    have hd : decide (32 ≤ (nOpen g.O : Int)) = false := hb
    cases hx : getE g.L s with
    | some e =>
      rw [lookV_some hx] at hlk
      have HV : Hid (cfullB g s = false) := by show _ = _; rw [cfullB, hb, hx]; rfl
      rw [HV.out]
      clear hb hx
      go_enter Tryz.func26, Tryz.ntmps26
      go_wp2_with fail
      go_quiet ((go_at_call 27; exact Calls.quiet_of_same (many_same sb g _ _ (H.out.drewN _) HR.out)))
      go_wp2_with fail
      go_ret
      exact Post.mk m (Mem.le_refl _) (H.out.drewN _) ((Env.refl w).drewN _) rfl
    | none =>
      rw [lookV_none hx] at hlk
      have HV : Hid (cfullB g s = decide (100 ≤ (g.L.length : Int))) := by show _ = _; rw [cfullB, hb, hx]; rfl
      rw [HV.out]
      clear hb hx
      go_enter Tryz.func26, Tryz.ntmps26
      go_wp2_with fail
      go_quiet ((go_at_call 27; exact Calls.quiet_of_same (many_same sb g _ _ (H.out.drewN _) HR.out)))
      go_wp2_with fail
      go_ret
      exact Post.mk m (Mem.le_refl _) (H.out.drewN _) ((Env.refl w).drewN _) rfl
theorem enters_cfull1 : Enters 26 := fun _ _ => by kernel_rfl
end Go.Proofs.YtcdmdkgiabfbeaaGreatDoor

/-
  A file's bytes become others, whatever held them: as Abs.lean's setF, of what is asked there the bare content.
-/
namespace Go.Proofs.YtcdmdkgiabfbeaaGreatDoor
open Go.RowKit

theorem SRep.setF2 {m m1 : Mem} {sb : Nat} {g : G} (r : SRep m sb g) {e : Ent} (he : e ∈ g.L) (bv' : Value) (bs' : List UInt8) (hgk : ∀ b o, m b = some o → e.bv.ownBlock ≠ some b → m1 b = some o) (hgn : ∀ b, bv'.ownBlock = some b → e.bv.ownBlock = some b ∨ m b = none)
    (hrow : Row (m1.set e.fb (.cells #[bv'] 80 (0, 0))) bv' 5 1 bs'.length (bs'.map byteV)) (hb : bs'.length ≤ 262144) :
    SRep (m1.set e.fb (.cells #[bv'] 80 (0, 0))) sb { g with L := setL g.L e.fb bv' bs' } := by
  have hfe := r.file e he
  have key : ∀ {b : Nat} {o : Obj}, m b = some o → b ≠ e.fb → e.bv.ownBlock ≠ some b → (m1.set e.fb (.cells #[bv'] 80 (0, 0))) b = some o := fun {b o} h1 h2 h3 => by
    rw [Mem.set_ne _ _ h2]; exact hgk _ _ h1 h3
  have own : ∀ {b : Nat} {o : Obj}, m b = some o → (∀ cur fz, o ≠ .cells cur 5 fz) → e.bv.ownBlock ≠ some b := fun {b o} h1 h2 h3 => by
    obtain ⟨cur, fz, hc⟩ := (r.row e he).ty h3
    rw [h1] at hc
    exact h2 _ _ (Option.some.inj hc)
  have nfb : ∀ {b : Nat} {o : Obj}, m b = some o → o ≠ fileObj e → b ≠ e.fb := fun {b o} h1 h2 h3 => by
    subst h3; rw [hfe] at h1; exact h2 (Option.some.inj h1).symm
  have key2 : ∀ {b : Nat} {o : Obj}, m b = some o → (∀ cur fz, o ≠ .cells cur 5 fz) → (∀ cur fz, o ≠ .cells cur 80 fz) → (m1.set e.fb (.cells #[bv'] 80 (0, 0))) b = some o := fun h1 h2 h3 =>
    key h1 (nfb h1 (h3 _ _)) (own h1 h2)
  have sepNew : ∀ d ∈ g.L, d.fb ≠ e.fb → ∀ b, bv'.ownBlock = some b → d.bv.ownBlock ≠ some b := fun d hd hne b h1 h2 => by
    obtain ⟨cur, fz, hc⟩ := (r.row d hd).ty h2
    rcases hgn b h1 with h4 | h4
    · exact r.sep e he d hd (Ne.symm hne) b h4 h2
    · rw [hc] at h4; cases h4
  exact { r with
    store := key2 r.store (by simp [storeObj]) (by simp [storeObj])
    map := by
      show (m1.set e.fb (.cells #[bv'] 80 (0, 0))) g.mb = some (mapObj (setL g.L e.fb bv' bs') g.clock)
      rw [setL_obj]; exact key2 r.map (by simp [mapObj]) (by simp [mapObj])
    file := fun d hd => by
      obtain ⟨c, hc, ⟨h1, rfl⟩ | ⟨h1, rfl⟩⟩ := setL_mem hd
      · show (m1.set e.fb (.cells #[bv'] 80 (0, 0))) c.fb = _
        rw [h1, Mem.set_same]; rfl
      · exact key (r.file d hc) h1 (own (r.file d hc) (by simp [fileObj]))
    row := fun d hd => by
      obtain ⟨c, hc, ⟨h1, rfl⟩ | ⟨h1, rfl⟩⟩ := setL_mem hd
      · exact hrow
      · refine (r.row d hc).keep fun b o hb hm => ?_
        obtain ⟨cur, fz, hx⟩ := (r.row d hc).ty hb
        refine key hm ?_ (fun h2 => r.sep e he d hc (Ne.symm h1) b h2 hb)
        rw [hm] at hx
        exact nfb hm (by rw [Option.some.inj hx]; simp [fileObj])
    names := by show ((setL g.L e.fb bv' bs').map (·.name)).Nodup; rw [setL_map (·.name) (fun _ _ _ => rfl)]; exact r.names
    fbs := by show ((setL g.L e.fb bv' bs').map (·.fb)).Nodup; rw [setL_map (·.fb) (fun _ _ _ => rfl)]; exact r.fbs
    sep := fun d hd d' hd' hne b h1 h2 => by
      obtain ⟨c, hc, ⟨x1, rfl⟩ | ⟨x1, rfl⟩⟩ := setL_mem hd <;> obtain ⟨c', hc', ⟨x2, rfl⟩ | ⟨x2, rfl⟩⟩ := setL_mem hd'
      · exact hne (x1.trans x2.symm)
      · exact sepNew _ hc' x2 b h1 h2
      · exact sepNew _ hc x1 b h2 h1
      · exact r.sep _ hc _ hc' hne b h1 h2
    bornN := by show ((setL g.L e.fb bv' bs').map (·.born)).Nodup; rw [setL_map (·.born) (fun _ _ _ => rfl)]; exact r.bornN
    bornC := fun d hd => by
      obtain ⟨c, hc, ⟨h1, rfl⟩ | ⟨h1, rfl⟩⟩ := setL_mem hd
      · exact r.bornC c hc
      · exact r.bornC d hc
    fails := Row.keep r.fails fun b o hb hm => by
      obtain ⟨cur, fz, hx⟩ := Row.ty r.fails hb
      rw [hm] at hx
      exact key2 hm (by rw [Option.some.inj hx]; simp) (by rw [Option.some.inj hx]; simp)
    opens := r.opens.keep fun b o hb hm => by
      obtain ⟨cur, fz, hx⟩ := r.opens.ty hb
      rw [hm] at hx
      exact key2 hm (by rw [Option.some.inj hx]; simp) (by rw [Option.some.inj hx]; simp)
    hnd := fun h hh => key2 (r.hnd h hh) (by simp [hndObj]) (by simp [hndObj])
    hof := fun h hh => by
      obtain ⟨c, hc, h1, h2⟩ := r.hof h hh
      refine ⟨if c.fb = e.fb then { c with bv := bv', bs := bs' } else c, List.mem_map_of_mem hc, ?_, ?_⟩
      · split <;> exact h1
      · split <;> exact h2
    llen := by show (setL g.L e.fb bv' bs').length ≤ 100; unfold setL; rw [List.length_map]; exact r.llen
    nm := fun d hd => by
      obtain ⟨c, hc, ⟨h1, rfl⟩ | ⟨h1, rfl⟩⟩ := setL_mem hd
      · exact r.nm c hc
      · exact r.nm d hc
    bsz := fun d hd => by
      obtain ⟨c, hc, ⟨h1, rfl⟩ | ⟨h1, rfl⟩⟩ := setL_mem hd
      · exact hb
      · exact r.bsz d hc }

theorem SRep.setF2_fr {m m1 : Mem} {sb : Nat} {g : G} {e : Ent} (he : e ∈ g.L) (bv' : Value) (bs' : List UInt8) (hgk : ∀ b o, m b = some o → e.bv.ownBlock ≠ some b → m1 b = some o) (hgn : ∀ b, bv'.ownBlock = some b → e.bv.ownBlock = some b ∨ m b = none) (o : Obj) :
    Fr m (m1.set e.fb o) (FP sb g) (FP sb { g with L := setL g.L e.fb bv' bs' }) := by
  have hown : ∀ b, e.bv.ownBlock = some b → FP sb g b := fun b hb => .inr (.inr (.inl ⟨e, he, .inr hb⟩))
  have hfb : FP sb g e.fb := .inr (.inr (.inl ⟨e, he, .inl rfl⟩))
  constructor
  · intro b x hb hp
    rw [Mem.set_ne _ _ (fun h => hp (by rw [h]; exact hfb))]
    exact hgk _ _ hb (fun h => hp (hown b h))
  · rintro b (x | x | ⟨d, hd, x⟩ | x | x | x)
    · exact .inl (.inl x)
    · exact .inl (.inr (.inl x))
    · obtain ⟨c, hc, ⟨h1, rfl⟩ | ⟨h1, rfl⟩⟩ := setL_mem hd
      · rcases x with x | x
        · exact .inl (.inr (.inr (.inl ⟨c, hc, .inl x⟩)))
        · rcases hgn b x with h4 | h4
          · exact .inl (hown b h4)
          · exact .inr h4
      · exact .inl (.inr (.inr (.inl ⟨d, hc, x⟩)))
    · exact .inl (.inr (.inr (.inr (.inl x))))
    · exact .inl (.inr (.inr (.inr (.inr (.inl x)))))
    · exact .inl (.inr (.inr (.inr (.inr (.inr x)))))


/-- A file without bytes. -/
theorem SRep.clear {m : Mem} {sb : Nat} {g : G} (r : SRep m sb g) {e : Ent} (he : e ∈ g.L) : SRep (m.set e.fb (.cells #[.slice none 0 0] 80 (0, 0))) sb { g with L := setL g.L e.fb (.slice none 0 0) [] } :=
  r.setF2 he _ [] (fun _ _ h _ => h) (fun _ h => by cases h) (Row.nil _ _ _) (by simp)
theorem SRep.clear_fr {m : Mem} {sb : Nat} {g : G} {e : Ent} (he : e ∈ g.L) (o : Obj) : Fr m (m.set e.fb o) (FP sb g) (FP sb { g with L := setL g.L e.fb (.slice none 0 0) [] }) :=
  SRep.setF2_fr he _ [] (fun _ _ h _ => h) (fun _ h => by cases h) o
end Go.Proofs.YtcdmdkgiabfbeaaGreatDoor

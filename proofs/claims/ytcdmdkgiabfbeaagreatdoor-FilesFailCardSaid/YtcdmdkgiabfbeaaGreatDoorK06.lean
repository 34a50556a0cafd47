/-
  What a store is, its memory forgotten: what is looked up by a name, how many files, the open files by their numbers, the fails, the operations. And how a store in memory changes: an open file's place, a file's bytes, an open file closed.
-/
import Derived.Test.YtcdmdkgiabfbeaaGreatDoorK05
namespace Go.Proofs.YtcdmdkgiabfbeaaGreatDoor
open Go.RowKit

abbrev H3 := ByteArray × Int × Nat

structure A where
  look : ByteArray → Option (List UInt8)
  count : Nat
  hnd : Nat → Option H3
  fails : List Fail3
  n : Nat

namespace A
def now (a : A) : Fail3 := failAt a.fails (a.n + 1)
def tick (a : A) : A := { a with n := a.n + 1 }
def got (a : A) (id : Int) : Option H3 := if 1 ≤ id ∧ id ≤ 32 then a.hnd (id - 1).toNat else none
def setH (a : A) (i : Nat) (x : Option H3) : A := { a with hnd := fun j => if j = i then x else a.hnd j }
def setF (a : A) (s : ByteArray) (bs : List UInt8) : A := { a with look := fun t => if t = s then some bs else a.look t }
def bytes (a : A) (s : ByteArray) : List UInt8 := (a.look s).getD []
def withA {β : Type} (a : A) (id : Int) (d : β) (f : A → H3 → Fail3 → A × Int × β) : A × Int × β :=
  if a.now.2.1 ≠ 0 then (a.tick, a.now.2.1, d) else match a.got id with | none => (a.tick, -37, d) | some h => f a.tick h a.now
end A

def Hnd.abs (h : Hnd) : H3 := (h.name, h.mode, h.pos)
def G.abs (g : G) : A := { look := fun s => (getE g.L s).map (·.bs), count := g.L.length, hnd := fun i => ((g.O[i]?).join).map Hnd.abs, fails := g.fails, n := g.n }

theorem G.abs_tick (g : G) : g.tick.abs = g.abs.tick := rfl
theorem G.abs_now (g : G) : g.abs.now = g.now := rfl
theorem G.abs_got (g : G) (hl : g.O.length ≤ 32) (id : Int) : g.abs.got id = (hndAt g.O id).map Hnd.abs := by
  unfold A.got hndAt
  by_cases h : 1 ≤ id ∧ id ≤ g.O.length
  · rw [if_pos h, if_pos (by omega)]; rfl
  · rw [if_neg h]
    by_cases h2 : 1 ≤ id ∧ id ≤ 32
    · rw [if_pos h2]
      show ((g.O[(id - 1).toNat]?).join).map Hnd.abs = none
      rw [List.getElem?_eq_none (by omega)]; rfl
    · rw [if_neg h2]; rfl

theorem getE_name {L : List Ent} {s : ByteArray} {e : Ent} (h : getE L s = some e) : e.name = s := by
  have := List.find?_some h
  simpa using (of_decide_eq_true this).symm
theorem getE_mem {L : List Ent} {s : ByteArray} {e : Ent} (h : getE L s = some e) : e ∈ L := List.mem_of_find?_eq_some h
theorem getE_of {L : List Ent} (hn : (L.map (·.name)).Nodup) {e : Ent} (he : e ∈ L) : getE L e.name = some e := by
  unfold getE
  induction L with
  | nil => cases he
  | cons d L ih =>
    rw [List.find?_cons]
    simp only [List.map_cons, List.nodup_cons] at hn
    rcases List.mem_cons.1 he with rfl | he
    · simp
    · have : ¬ e.name = d.name := fun h => hn.1 (by rw [← h]; exact List.mem_map_of_mem he)
      simp only [this, decide_false]
      exact ih hn.2 he

/-- An open file's file. -/
theorem SRep.fileOf {m : Mem} {sb : Nat} {g : G} (r : SRep m sb g) {k : Nat} {h : Hnd} (hk : g.O[k]? = some (some h)) :
    ∃ e ∈ g.L, e.fb = h.fb ∧ e.name = h.name ∧ g.abs.look h.name = some e.bs := by
  obtain ⟨e, he, h1, h2⟩ := r.hof h (List.mem_of_getElem? hk)
  refine ⟨e, he, h1, h2, ?_⟩
  show (getE g.L h.name).map (·.bs) = _
  rw [← h2, getE_of r.names he]; rfl

/-! ### an open file's place -/
theorem SRep.setH {m : Mem} {sb : Nat} {g : G} (r : SRep m sb g) {k : Nat} {h : Hnd} (hk : g.O[k]? = some (some h)) (mode : Int) (p : Nat) (hp : p ≤ 262144) :
    SRep (m.set h.ob (hndObj { h with mode := mode, pos := p })) sb { g with O := g.O.set k (some { h with mode := mode, pos := p }) } := by
  have hm : some h ∈ g.O := List.mem_of_getElem? hk
  have hlt : k < g.O.length := (List.getElem?_eq_some_iff.1 hk).1
  have hob := r.hnd h hm
  refine r.reopen g.ov _ ?_ ?_ ?_ ?_ ?_ ?_
  · rw [Mem.set_ne _ _ (by intro e; rw [← e, r.store] at hob; simp [storeObj, hndObj] at hob)]; exact r.store
  · intro b o hb _ _
    by_cases e : b = h.ob
    · exact .inr ⟨h, hm, e⟩
    · exact .inl (by rw [Mem.set_ne _ _ e]; exact hb)
  · have hrow := r.opens.set_other (hndObj { h with mode := mode, pos := p }) (b := h.ob) (fun e => by
      obtain ⟨cur, fz, hc⟩ := r.opens.ty e; rw [hob] at hc; simp [hndObj] at hc)
    have : (g.O.set k (some { h with mode := mode, pos := p })).map hndV = g.O.map hndV := by
      apply List.ext_getElem?
      intro i
      rw [List.getElem?_map, List.getElem?_map, List.getElem?_set]
      by_cases e : k = i
      · subst e; rw [if_pos rfl, if_pos hlt, hk]; rfl
      · rw [if_neg e]
    rw [this, List.length_set]
    exact hrow
  · intro j hj
    rcases List.mem_or_eq_of_mem_set hj with hj' | hj'
    · by_cases e : j.ob = h.ob
      · obtain ⟨i, hi, hij⟩ := List.getElem_of_mem hj
        rw [List.getElem_set] at hij
        by_cases eki : k = i
        · rw [if_pos eki] at hij
          obtain rfl := Option.some.inj hij
          exact ⟨Mem.set_same _ _ _, r.hof h hm, hp⟩
        · rw [if_neg eki] at hij
          have hi' : g.O[i]? = some (some j) := by rw [List.getElem?_eq_getElem (by simpa using hi), hij]
          exact absurd (r.obs _ _ _ _ hk hi' e.symm) eki
      · exact ⟨by rw [Mem.set_ne _ _ e]; exact r.hnd j hj', r.hof j hj', r.pos j hj'⟩
    · obtain rfl := Option.some.inj hj'
      exact ⟨Mem.set_same _ _ _, r.hof h hm, hp⟩
  · intro i j hi hj h1 h2 e
    have key : ∀ (i : Nat) (x : Hnd), (g.O.set k (some { h with mode := mode, pos := p }))[i]? = some (some x) → ∃ y, g.O[i]? = some (some y) ∧ y.ob = x.ob := fun i x hx => by
      rw [List.getElem?_set] at hx
      by_cases e : k = i
      · subst e
        rw [if_pos rfl, if_pos hlt] at hx
        simp only [Option.some.injEq] at hx
        subst hx
        exact ⟨h, hk, rfl⟩
      · rw [if_neg e] at hx; exact ⟨x, hx, rfl⟩
    obtain ⟨y1, a1, b1⟩ := key i hi h1
    obtain ⟨y2, a2, b2⟩ := key j hj h2
    exact r.obs _ _ _ _ a1 a2 (by rw [b1, b2, e])
  · simpa using r.olen

theorem SRep.setH_fr {m : Mem} {sb : Nat} {g : G} {k : Nat} {h : Hnd} (hk : g.O[k]? = some (some h)) (mode : Int) (p : Nat) (o : Obj) :
    Fr m (m.set h.ob o) (FP sb g) (FP sb { g with O := g.O.set k (some { h with mode := mode, pos := p }) }) := by
  have hm : some h ∈ g.O := List.mem_of_getElem? hk
  refine (Fr.set o (.inl (.inr (.inr (.inr (.inr (.inr ⟨h, hm, rfl⟩))))))).mono ?_
  rintro b (x | x | x | x | x | ⟨y, hy, rfl⟩)
  · exact .inl (.inl x)
  · exact .inl (.inr (.inl x))
  · exact .inl (.inr (.inr (.inl x)))
  · exact .inl (.inr (.inr (.inr (.inl x))))
  · exact .inl (.inr (.inr (.inr (.inr (.inl x)))))
  · rcases List.mem_or_eq_of_mem_set hy with hy | hy
    · exact .inl (.inr (.inr (.inr (.inr (.inr ⟨y, hy, rfl⟩)))))
    · obtain rfl := Option.some.inj hy
      exact .inl (.inr (.inr (.inr (.inr (.inr ⟨h, hm, rfl⟩)))))

theorem abs_setH (g : G) (k : Nat) (x : Option Hnd) (hk : k < g.O.length) : ({ g with O := g.O.set k x } : G).abs = g.abs.setH k (x.map Hnd.abs) := by
  simp only [G.abs, A.setH, A.mk.injEq, true_and, and_true]
  funext i
  rw [List.getElem?_set]
  by_cases e : k = i
  · subst e; rw [if_pos rfl, if_pos hk]; simp
  · rw [if_neg e, if_neg (Ne.symm e)]

/-! ### a file's bytes -/
def setL (L : List Ent) (fb : Nat) (bv : Value) (bs : List UInt8) : List Ent := L.map fun d => if d.fb = fb then { d with bv := bv, bs := bs } else d

theorem setL_map {β : Type} (f : Ent → β) (hf : ∀ (d : Ent) bv bs, f { d with bv := bv, bs := bs } = f d) (L : List Ent) (fb : Nat) (bv : Value) (bs : List UInt8) : (setL L fb bv bs).map f = L.map f := by
  unfold setL
  rw [List.map_map]
  refine List.map_congr_left fun d _ => ?_
  simp only [Function.comp]
  split
  · exact hf _ _ _
  · rfl
theorem setL_mem {L : List Ent} {fb : Nat} {bv : Value} {bs : List UInt8} {d : Ent} (h : d ∈ setL L fb bv bs) : ∃ c ∈ L, (c.fb = fb ∧ d = { c with bv := bv, bs := bs }) ∨ (c.fb ≠ fb ∧ d = c) := by
  obtain ⟨c, hc, rfl⟩ := List.mem_map.1 h
  refine ⟨c, hc, ?_⟩
  by_cases e : c.fb = fb
  · exact .inl ⟨e, by simp [e]⟩
  · exact .inr ⟨e, by simp [e]⟩
theorem setL_obj (L : List Ent) (fb : Nat) (bv : Value) (bs : List UInt8) (c : Nat) : mapObj (setL L fb bv bs) c = mapObj L c := by
  unfold mapObj
  rw [setL_map Ent.entry (fun _ _ _ => rfl)]

theorem nodup_inj {α β : Type} {f : α → β} : ∀ {L : List α}, (L.map f).Nodup → ∀ {a b : α}, a ∈ L → b ∈ L → f a = f b → a = b
  | [], _, _, _, h, _, _ => by cases h
  | d :: L, hn, a, b, ha, hb, e => by
    simp only [List.map_cons, List.nodup_cons] at hn
    rcases List.mem_cons.1 ha with rfl | ha' <;> rcases List.mem_cons.1 hb with rfl | hb'
    · rfl
    · exact absurd (by rw [e]; exact List.mem_map_of_mem hb') hn.1
    · exact absurd (by rw [← e]; exact List.mem_map_of_mem ha') hn.1
    · exact nodup_inj hn.2 ha' hb' e

theorem SRep.setF {m m1 : Mem} {sb : Nat} {g : G} (r : SRep m sb g) {e : Ent} (he : e ∈ g.L) (bv' : Value) (bs' : List UInt8) (hg : Grows m m1 e.bv bv')
    (hrow : Row (m1.set e.fb (.cells #[bv'] 80 (0, 0))) bv' 5 1 bs'.length (bs'.map byteV)) (hb : bs'.length ≤ 262144) :
    SRep (m1.set e.fb (.cells #[bv'] 80 (0, 0))) sb { g with L := setL g.L e.fb bv' bs' } := by
  have hfe := r.file e he
  have key : ∀ {b : Nat} {o : Obj}, m b = some o → b ≠ e.fb → e.bv.ownBlock ≠ some b → (m1.set e.fb (.cells #[bv'] 80 (0, 0))) b = some o := fun {b o} h1 h2 h3 => by
    rw [Mem.set_ne _ _ h2]; exact hg.keep h1 h3
  have own : ∀ {b : Nat} {o : Obj}, m b = some o → (∀ cur fz, o ≠ .cells cur 5 fz) → e.bv.ownBlock ≠ some b := fun {b o} h1 h2 h3 => by
    obtain ⟨cur, fz, hc⟩ := (r.row e he).ty h3
    rw [h1] at hc
    exact h2 _ _ (Option.some.inj hc)
  have nfb : ∀ {b : Nat} {o : Obj}, m b = some o → o ≠ fileObj e → b ≠ e.fb := fun {b o} h1 h2 h3 => by
    subst h3; rw [hfe] at h1; exact h2 (Option.some.inj h1).symm
  have key2 : ∀ {b : Nat} {o : Obj}, m b = some o → (∀ cur fz, o ≠ .cells cur 5 fz) → (∀ cur fz, o ≠ .cells cur 80 fz) → (m1.set e.fb (.cells #[bv'] 80 (0, 0))) b = some o := fun h1 h2 h3 =>
    key h1 (nfb h1 (h3 _ _)) (own h1 h2)
  have sepNew : ∀ d ∈ g.L, d.fb ≠ e.fb → ∀ b, bv'.ownBlock = some b → d.bv.ownBlock ≠ some b := fun d hd hne b h1 h2 => by
    obtain ⟨cur, fz, hc⟩ := (r.row d hd).ty h2
    rcases hg with ⟨_, h3⟩ | ⟨gb, o, h3, _, h4⟩
    · rw [h3] at h1
      exact r.sep e he d hd (Ne.symm hne) b h1 h2
    · rw [h1] at h3
      obtain rfl := Option.some.inj h3
      rcases h4 with h4 | h4
      · exact r.sep e he d hd (Ne.symm hne) b h4 h2
      · rw [hc] at h4; cases h4
  exact { r with
    store := key2 r.store (by simp [storeObj]) (by simp [storeObj])
    map := by
      show (m1.set e.fb (.cells #[bv'] 80 (0, 0))) g.mb = some (mapObj (setL g.L e.fb bv' bs') g.clock)
      rw [setL_obj]; exact key2 r.map (by simp [mapObj]) (by simp [mapObj])
    file := fun d hd => by
      obtain ⟨c, hc, ⟨h1, rfl⟩ | ⟨h1, rfl⟩⟩ := setL_mem hd
      · show (m1.set e.fb (.cells #[bv'] 80 (0, 0))) c.fb = _
        rw [h1, Mem.set_same]; rfl
      · exact key (r.file d hc) h1 (own (r.file d hc) (by simp [fileObj]))
    row := fun d hd => by
      obtain ⟨c, hc, ⟨h1, rfl⟩ | ⟨h1, rfl⟩⟩ := setL_mem hd
      · exact hrow
      · refine (r.row d hc).keep fun b o hb hm => ?_
        obtain ⟨cur, fz, hx⟩ := (r.row d hc).ty hb
        refine key hm ?_ (fun h2 => r.sep e he d hc (Ne.symm h1) b h2 hb)
        rw [hm] at hx
        exact nfb hm (by rw [Option.some.inj hx]; simp [fileObj])
    names := by show ((setL g.L e.fb bv' bs').map (·.name)).Nodup; rw [setL_map (·.name) (fun _ _ _ => rfl)]; exact r.names
    fbs := by show ((setL g.L e.fb bv' bs').map (·.fb)).Nodup; rw [setL_map (·.fb) (fun _ _ _ => rfl)]; exact r.fbs
    sep := fun d hd d' hd' hne b h1 h2 => by
      obtain ⟨c, hc, ⟨x1, rfl⟩ | ⟨x1, rfl⟩⟩ := setL_mem hd <;> obtain ⟨c', hc', ⟨x2, rfl⟩ | ⟨x2, rfl⟩⟩ := setL_mem hd'
      · exact hne (x1.trans x2.symm)
      · exact sepNew _ hc' x2 b h1 h2
      · exact sepNew _ hc x1 b h2 h1
      · exact r.sep _ hc _ hc' hne b h1 h2
    bornN := by show ((setL g.L e.fb bv' bs').map (·.born)).Nodup; rw [setL_map (·.born) (fun _ _ _ => rfl)]; exact r.bornN
    bornC := fun d hd => by
      obtain ⟨c, hc, ⟨h1, rfl⟩ | ⟨h1, rfl⟩⟩ := setL_mem hd
      · exact r.bornC c hc
      · exact r.bornC d hc
    fails := Row.keep r.fails fun b o hb hm => by
      obtain ⟨cur, fz, hx⟩ := Row.ty r.fails hb
      rw [hm] at hx
      exact key2 hm (by rw [Option.some.inj hx]; simp) (by rw [Option.some.inj hx]; simp)
    opens := r.opens.keep fun b o hb hm => by
      obtain ⟨cur, fz, hx⟩ := r.opens.ty hb
      rw [hm] at hx
      exact key2 hm (by rw [Option.some.inj hx]; simp) (by rw [Option.some.inj hx]; simp)
    hnd := fun h hh => key2 (r.hnd h hh) (by simp [hndObj]) (by simp [hndObj])
    hof := fun h hh => by
      obtain ⟨c, hc, h1, h2⟩ := r.hof h hh
      refine ⟨if c.fb = e.fb then { c with bv := bv', bs := bs' } else c, List.mem_map_of_mem hc, ?_, ?_⟩
      · split <;> exact h1
      · split <;> exact h2
    llen := by show (setL g.L e.fb bv' bs').length ≤ 100; unfold setL; rw [List.length_map]; exact r.llen
    nm := fun d hd => by
      obtain ⟨c, hc, ⟨h1, rfl⟩ | ⟨h1, rfl⟩⟩ := setL_mem hd
      · exact r.nm c hc
      · exact r.nm d hc
    bsz := fun d hd => by
      obtain ⟨c, hc, ⟨h1, rfl⟩ | ⟨h1, rfl⟩⟩ := setL_mem hd
      · exact hb
      · exact r.bsz d hc }

theorem SRep.setF_fr {m m1 : Mem} {sb : Nat} {g : G} {e : Ent} (he : e ∈ g.L) (bv' : Value) (bs' : List UInt8) (hg : Grows m m1 e.bv bv') (o : Obj) :
    Fr m (m1.set e.fb o) (FP sb g) (FP sb { g with L := setL g.L e.fb bv' bs' }) := by
  have hown : ∀ b, e.bv.ownBlock = some b → FP sb g b := fun b hb => .inr (.inr (.inl ⟨e, he, .inr hb⟩))
  have hfb : FP sb g e.fb := .inr (.inr (.inl ⟨e, he, .inl rfl⟩))
  constructor
  · intro b x hb hp
    rw [Mem.set_ne _ _ (fun h => hp (by rw [h]; exact hfb))]
    exact hg.keep hb (fun h => hp (hown b h))
  · rintro b (x | x | ⟨d, hd, x⟩ | x | x | x)
    · exact .inl (.inl x)
    · exact .inl (.inr (.inl x))
    · obtain ⟨c, hc, ⟨h1, rfl⟩ | ⟨h1, rfl⟩⟩ := setL_mem hd
      · rcases x with x | x
        · exact .inl (.inr (.inr (.inl ⟨c, hc, .inl x⟩)))
        · rcases hg with ⟨_, h3⟩ | ⟨gb, o', h3, _, h4⟩
          · rw [h3] at x; exact .inl (hown b x)
          · rw [x] at h3
            obtain rfl := Option.some.inj h3
            rcases h4 with h4 | h4
            · exact .inl (hown b h4)
            · exact .inr h4
      · exact .inl (.inr (.inr (.inl ⟨d, hc, x⟩)))
    · exact .inl (.inr (.inr (.inr (.inl x))))
    · exact .inl (.inr (.inr (.inr (.inr (.inl x)))))
    · exact .inl (.inr (.inr (.inr (.inr (.inr x)))))

theorem getE_setL (L : List Ent) (hfb : (L.map (·.fb)).Nodup) (hn : (L.map (·.name)).Nodup) {e : Ent} (he : e ∈ L) (bv : Value) (bs : List UInt8) (s : ByteArray) :
    (getE (setL L e.fb bv bs) s).map (·.bs) = if s = e.name then some bs else (getE L s).map (·.bs) := by
  by_cases h : s = e.name
  · subst h
    rw [if_pos rfl]
    have hmem : ({ e with bv := bv, bs := bs } : Ent) ∈ setL L e.fb bv bs := List.mem_map.2 ⟨e, he, by simp⟩
    have hn' : ((setL L e.fb bv bs).map (·.name)).Nodup := by rw [setL_map (·.name) (fun _ _ _ => rfl)]; exact hn
    rw [show e.name = ({ e with bv := bv, bs := bs } : Ent).name from rfl, getE_of hn' hmem]; rfl
  · rw [if_neg h]
    have hne : ∀ d ∈ L, d.fb = e.fb → d.name ≠ s := fun d hd hf hs => h (by rw [← hs, nodup_inj hfb hd he hf])
    clear hn he hfb h
    induction L with
    | nil => rfl
    | cons d L ih =>
      have ih' := ih fun c hc => hne c (List.mem_cons_of_mem _ hc)
      unfold getE setL at ih' ⊢
      rw [List.map_cons, List.find?_cons, List.find?_cons]
      by_cases hd : d.fb = e.fb
      · have hx := hne d (List.mem_cons_self ..) hd
        have : ¬ s = d.name := fun h => hx h.symm
        simp only [hd, if_true, this, decide_false]
        exact ih'
      · simp only [hd, if_false]
        by_cases hs : s = d.name
        · simp [hs]
        · simp only [hs, decide_false]; exact ih'

theorem abs_setF {m : Mem} {sb : Nat} {g : G} (r : SRep m sb g) {e : Ent} (he : e ∈ g.L) (bv : Value) (bs : List UInt8) : ({ g with L := setL g.L e.fb bv bs } : G).abs = g.abs.setF e.name bs := by
  simp only [G.abs, A.setF, A.mk.injEq, true_and, and_true]
  refine ⟨?_, by unfold setL; simp⟩
  funext s
  exact getE_setL g.L r.fbs r.names he bv bs s
end Go.Proofs.YtcdmdkgiabfbeaaGreatDoor

/-
  An operation on an open file, by way of with: what it comes to in the store's own words.
-/
namespace Go.Proofs.YtcdmdkgiabfbeaaGreatDoor
open Go.RowKit

namespace Mem
theorem none_le {m n : Mem} (h : m.le n) {b : Nat} (k : n b = none) : m b = none := by
  cases hm : m b with
  | none => rfl
  | some o => rw [h _ _ hm] at k; cases k
theorem none_set {m : Mem} {b c : Nat} {o : Obj} (k : (m.set c o) b = none) : m b = none := by
  by_cases e : b = c
  · subst e; rw [set_same] at k; cases k
  · rwa [set_ne _ _ e] at k
end Mem

/-- The store is another one; what is known of other blocks, but for some of E, stays. -/
def OpR {β : Type} (m : Mem) (sb : Nat) (g : G) (E : Nat → Prop) (F : A × Int × β) (X : Mem → β → Prop) (m2 : Mem) (x : Int) : Prop :=
  ∃ g2, SRep m2 sb g2 ∧ Fr m m2 (fun b => FP sb g b ∨ E b) (FP sb g2) ∧ g2.abs = F.1 ∧ x = F.2.1 ∧ X m2 F.2.2

theorem Fr.glob {m m2 : Mem} {P P' : Nat → Prop} (h : Fr m m2 P P') (hP : ¬ P 0) (hG : GlobOk m) : GlobOk m2 := by
  obtain ⟨c, e, fz, h1, h2⟩ := hG
  exact ⟨c, e, fz, h.keep _ _ h1 hP, h2⟩

theorem FP_tick (sb : Nat) (g : G) : FP sb g.tick = FP sb g := rfl

theorem Fr.tick {m m1 : Mem} {sb : Nat} {g : G} (l : (m.set sb (storeObj g.tick)).le m1) (E : Nat → Prop) : Fr m m1 (fun b => FP sb g b ∨ E b) (fun b => FP sb g b ∨ E b) :=
  (Fr.set _ (.inl (.inl (.inl rfl)))).le l

/-- The frame of an operation, at what was known ahead of its own blocks. -/
theorem OpR.ahead {β : Type} {m0 m m2 : Mem} {sb : Nat} {g : G} {E E' : Nat → Prop} {F : A × Int × β} {X X' : Mem → β → Prop} {x : Int} (h : OpR m sb g E F X m2 x) (l : m0.le m) (hE : ∀ b, E b → m0 b = none) (hX : X m2 F.2.2 → X' m2 F.2.2) :
    OpR m0 sb g E' F X' m2 x := by
  obtain ⟨g2, h1, h2, h3, h4, h5⟩ := h
  refine ⟨g2, h1, ⟨fun b o hb hp => h2.keep b o (l _ _ hb) ?_, fun b hb => ?_⟩, h3, h4, hX h5⟩
  · rintro (x | x)
    · exact hp (.inl x)
    · rw [hE b x] at hb; cases hb
  · rcases h2.new b hb with (x | x) | x
    · exact .inl (.inl x)
    · exact .inr (hE b x)
    · cases hm : m0 b with
      | none => exact .inr rfl
      | some o => rw [l _ _ hm] at x; cases x

theorem Fr.more {m m2 : Mem} {P P' : Nat → Prop} (h : Fr m m2 P P') (E : Nat → Prop) : Fr m m2 (fun b => P b ∨ E b) P' :=
  ⟨fun b o hb hp => h.keep b o hb (fun x => hp (.inl x)), fun b hb => by rcases h.new b hb with x | x; exact .inl (.inl x); exact .inr x⟩

/-- What a closure that with calls comes to. -/
def DoR {β : Type} (w : World) (m : Mem) (sb : Nat) (g : G) (E : Nat → Prop) (F : A × Int × β) (X : Mem → β → Prop) (e : Ending) (w2 : World) : Prop :=
  ∃ ev x m2, e = .returned ev ∧ Has w2 m2 ∧ Env w w2 ∧ ErrIs m2 ev x ∧ OpR m sb g E F X m2 x

theorem with_op {β : Type} (d : β) (f : A → H3 → Fail3 → A × Int × β) (X : Mem → β → Prop) (E : Nat → Prop) (sb : Nat) (id : Int) (g : G) (fn : FuncId) (caps : Array Value) (w : World) (m : Mem) (hm : Has w m) (hr : SRep m sb g) (hG : GlobOk m)
    (h0 : ¬ FP sb g 0) (hE : ¬ E 0) (hn : g.n ≤ 999999) (he : Enters fn)
    (hdo : ∀ (k : Nat) (h : Hnd), g.O[k]? = some (some h) → id = (k : Int) + 1 → ∀ w1 m1, (m.set sb (storeObj g.tick)).le m1 → Has w1 m1 → SRep m1 sb g.tick →
      Calls Tryz.prog fn (#[.pointer (some ⟨h.ob, 0, none⟩), failV g.now] ++ caps) w1 (DoR w1 m1 sb g.tick E (f g.abs.tick h.abs g.now) X))
    (hX : ∀ m1, (m.set sb (storeObj g.tick)).le m1 → X m1 d) :
    Calls Tryz.prog 34 #[.pointer (some ⟨sb, 0, none⟩), .int .i64 id, .func (.func fn) #[] caps] w (Ans w (OpR m sb g E (A.withA g.abs id d f) X)) := by
  have h1 : ∀ m1, (m.set sb (storeObj g.tick)).le m1 → SRep m1 sb g.tick := fun m1 l => hr.count.le l
  have h2 : ∀ m1, (m.set sb (storeObj g.tick)).le m1 → GlobOk m1 := fun m1 l => (Fr.tick l E).glob (by rintro (x | x); exact h0 x; exact hE x) hG
  refine with_any sb id g fn caps w m hm hr hG hn he _ (fun hf h hh w1 m1 l1 hw1 => ?_) (fun hf m1 l1 => ?_) (fun hf hh m1 l1 => ?_)
  · obtain ⟨k, hk, hlt, hO⟩ := hndAt_some hh
    refine (hdo k h (by rw [List.getElem?_eq_getElem hlt, hO]) hk w1 m1 l1 hw1 (h1 m1 l1)).mono ?_
    rintro e w2 ⟨ev, x, m2, rfl, a1, a2, a3, g2, b1, b2, b3, b4, b5⟩
    have hFA : A.withA g.abs id d f = f g.abs.tick h.abs g.now := by
      unfold A.withA
      rw [if_neg (by rw [G.abs_now]; exact fun c => c hf), G.abs_got _ hr.olen, hh]; rfl
    refine ⟨ev, x, m2, rfl, a1, a2, a3, b2.glob ?_ (h2 m1 l1), g2, b1, ?_, by rw [hFA]; exact b3, by rw [hFA]; exact b4, by rw [hFA]; exact b5⟩
    · rintro (x | x)
      · exact h0 x
      · exact hE x
    · exact (Fr.tick l1 E).trans b2
  · have hFA : A.withA g.abs id d f = (g.abs.tick, g.now.2.1, d) := by
      unfold A.withA
      rw [if_pos (by rw [G.abs_now]; exact hf)]; rfl
    rw [hFA]
    exact ⟨g.tick, h1 m1 l1, (Fr.tick l1 E).mono (fun b hb => .inl (.inl hb)), rfl, rfl, hX m1 l1⟩
  · have hFA : A.withA g.abs id d f = (g.abs.tick, -37, d) := by
      unfold A.withA
      rw [if_neg (by rw [G.abs_now]; exact fun c => c hf), G.abs_got _ hr.olen, hh]; rfl
    rw [hFA]
    exact ⟨g.tick, h1 m1 l1, (Fr.tick l1 E).mono (fun b hb => .inl (.inl hb)), rfl, rfl, hX m1 l1⟩

/-- A box of a number. -/
def BoxI (m : Mem) (p : Nat) (n : Int) : Prop := m p = some (.cells #[.int .i64 n] 3 (0, 0))
end Go.Proofs.YtcdmdkgiabfbeaaGreatDoor

/-
  Seek.
-/
namespace Go.Proofs.YtcdmdkgiabfbeaaGreatDoor
open Go.RowKit

def seekF (i : Nat) (n : Int) (t : A) (h : H3) (_ : Fail3) : A × Int × Unit :=
  if n < 0 ∨ ((t.bytes h.1).length : Int) < n then (t, -36, ()) else (t.setH i (some (h.1, h.2.1, n.toNat)), 0, ())

set_option maxHeartbeats 1000000 in
theorem seek1_any (sb k p : Nat) (g : G) (h : Hnd) (n : Int) (fl : Fail3) (w : World) (m : Mem) (hm : Has w m) (hr : SRep m sb g) (hk : g.O[k]? = some (some h)) (hp : BoxI m p n) :
    Calls Tryz.prog 43 #[.pointer (some ⟨h.ob, 0, none⟩), failV fl, .pointer (some ⟨p, 0, none⟩)] w
      (DoR w m sb g (fun _ => False) (seekF k n g.abs h.abs fl) (fun _ _ => True)) := by
  obtain ⟨e, he, hfb, hname, hlook⟩ := hr.fileOf hk
  have hob := hr.hnd h (List.mem_of_getElem? hk)
  have hrow := hr.row e he
  obtain ⟨ba, bc, hbv, hbc⟩ := hrow.lenV
  have hfile := hr.file e he
  rw [hfb] at hfile
  have c0 : w.cell? ⟨p, 0, none⟩ = some (.int .i64 n) := by rw [hm.cell hp]; rfl
  have c1 : w.cell? ⟨h.ob, 0, none⟩ = some (.pointer (some ⟨h.fb, 0, none⟩)) := by rw [hm.cell hob]; rfl
  have c2 : w.cell? ⟨h.ob, 2, none⟩ = some (.int .i64 h.pos) := by rw [hm.cell hob]; rfl
  have f2 : w.frozen? ⟨h.ob, 2, none⟩ = false := hm.froz hob
  have c3 : w.cell? ⟨h.fb, 0, none⟩ = some (.slice ba e.bs.length bc) := by rw [hm.cell hfile, ← hbv]; rfl
  have l0 := hm.lt hp
  have l1 := hm.lt hob
  have l2 := hm.lt hfile
  have hbs : g.abs.bytes h.name = e.bs := by unfold A.bytes; rw [hlook]; rfl
  have hsz := hr.bsz e he
  have HBS := Lib.hid hbs
  have H := Lib.hid hm
  have HR := Lib.hid hr
  have HK := Lib.hid hk
  have HOB := Lib.hid hob
  obtain ⟨f0, f1, fs⟩ := fl
  clear hm hr hob hrow hfile hbs hlook hp hbv he hname hfb
  simp only [failV]
  by_cases h1 : n < 0
  · have HF : Hid (seekF k n g.abs h.abs (f0, f1, fs) = (g.abs, -36, ())) := by
      show _ = _; unfold seekF; rw [if_pos (.inl h1)]
    go_enter Tryz.func43, Tryz.ntmps43
    go_wp2_with fail
    go_quiet (fail)
    go_wp2_with fail
    refine (refuse_any (-36) _ _ ((H.out.keep _).drewN _) (by decide)).mono ?_
    rintro e w2 ⟨v, m2, rfl, l2, h2, n2, hv⟩
    have L2 := Lib.hid l2
    have H2 := Lib.hid h2
    have N2 := Lib.hid n2
    have HV := Lib.hid hv
    clear l2 h2 n2 hv
    go_wp2_with fail
    go_ret
    rw [HF.out]
    exact ⟨v, -36, m2, rfl, H2.out, (((Env.refl w).alloc _).drewN _).trans N2.out, HV.out, g, HR.out.le L2.out, (Fr.of_le L2.out _).mono (fun b hb => .inl (.inl hb)), rfl, rfl, trivial⟩
  · by_cases h2 : (e.bs.length : Int) < n
    · have HF : Hid (seekF k n g.abs h.abs (f0, f1, fs) = (g.abs, -36, ())) := by
        show _ = _; unfold seekF; rw [if_pos (.inr (by show ((g.abs.bytes h.name).length : Int) < n; rw [HBS.out]; exact h2))]
      go_enter Tryz.func43, Tryz.ntmps43
      go_wp2_with fail
      go_quiet (fail)
      go_wp2_with fail
      refine (refuse_any (-36) _ _ ((H.out.keep _).drewN _) (by decide)).mono ?_
      rintro e w2 ⟨v, m2, rfl, l2, h2, n2, hv⟩
      have L2 := Lib.hid l2
      have H2 := Lib.hid h2
      have N2 := Lib.hid n2
      have HV := Lib.hid hv
      clear l2 h2 n2 hv
      go_wp2_with fail
      go_ret
      rw [HF.out]
      exact ⟨v, -36, m2, rfl, H2.out, (((Env.refl w).alloc _).drewN _).trans N2.out, HV.out, g, HR.out.le L2.out, (Fr.of_le L2.out _).mono (fun b hb => .inl (.inl hb)), rfl, rfl, trivial⟩
    · have HF : Hid (seekF k n g.abs h.abs (f0, f1, fs) = (g.abs.setH k (some (h.name, h.mode, n.toNat)), 0, ())) := by
        show _ = _; unfold seekF; rw [if_neg (by show ¬ (n < 0 ∨ ((g.abs.bytes h.name).length : Int) < n); rw [HBS.out]; omega)]; rfl
      go_enter Tryz.func43, Tryz.ntmps43
      go_wp2_with fail
      go_quiet (fail)
      go_wp2_with fail
      go_ret
      rw [HF.out]
      have hst := ((H.out.keep (.cells #[.int .i64 f0, .int .i64 f1, .int .i64 fs] 47)).drewN nq).storeTo (off := 2) (c' := #[.pointer (some ⟨h.fb, 0, none⟩), .int .i64 h.mode, .int .i64 n]) HOB.out (.int .i64 n) (by simp)
      have hnn : ((n.toNat : Nat) : Int) = n := by omega
      have hobj : (.cells #[.pointer (some ⟨h.fb, 0, none⟩), .int .i64 h.mode, .int .i64 n] 88 (0, 0) : Obj) = hndObj { h with mode := h.mode, pos := n.toNat } := by
        unfold hndObj; simp only [hnn]
      rw [hobj] at hst
      refine ⟨.nilIface, 0, _, rfl, hst, ((((Env.refl w).alloc _).drewN _).setCell _ _), .inl ⟨rfl, rfl⟩, _, HR.out.setH HK.out h.mode n.toNat (by omega), (SRep.setH_fr HK.out h.mode n.toNat _).more _, ?_, rfl, trivial⟩
      rw [abs_setH _ _ _ ((List.getElem?_eq_some_iff.1 HK.out).1)]; rfl
theorem enters_seek1 : Enters 43 := fun _ _ => by kernel_rfl

set_option maxHeartbeats 1000000 in
theorem seek_any (sb : Nat) (id n : Int) (g : G) (w : World) (m : Mem) (hm : Has w m) (hr : SRep m sb g) (hG : GlobOk m) (h0 : ¬ FP sb g 0) (hn : g.n ≤ 999999) :
    Calls Tryz.prog 12 #[.pointer (some ⟨sb, 0, none⟩), .int .i64 id, .int .i64 n] w
      (Ans w (OpR m sb g (fun _ => False) (A.withA g.abs id () (seekF (id - 1).toNat n)) (fun _ _ => True))) := by
  have hfr := hm.fresh (Nat.le_refl w.heap.size)
  have h1 := hm.alloc (.cells #[.int .i64 n] 3)
  have l1 := Mem.le_set m (.cells #[.int .i64 n] 3) hfr
  have hW := with_op () (seekF (id - 1).toNat n) (fun _ _ => True) (fun _ => False) sb id g 43 #[.pointer (some ⟨w.heap.size, 0, none⟩)] _ _ h1 (hr.le l1) (hG.le l1) h0 (fun h => h) hn enters_seek1
    (fun k h hk hid w1 m1 l2 hw1 hr1 => by
      have hbox : BoxI m1 w.heap.size n := l2 _ _ (by
        rw [Mem.set_ne _ _ (Mem.ne_of_none hfr hr.store)]
        exact Mem.set_same _ _ _)
      have hk' : (id - 1).toNat = k := by omega
      rw [hk']
      exact seek1_any sb k w.heap.size g.tick h n g.now w1 m1 hw1 hr1 hk hbox)
    (fun _ _ => trivial)
  have HW := Lib.hid hW
  have L1 := Lib.hid l1
  clear hm hr hG h1 l1 hW hfr
  go_enter Tryz.func12, Tryz.ntmps12
  go_wp2_with fail
  refine HW.out.mono ?_
  rintro e w2 ⟨x, m2, rfl, h2, n2, hx⟩
  have H2 := Lib.hid h2
  have N2 := Lib.hid n2
  have HX := Lib.hid hx
  clear h2 n2 hx
  go_wp2_with fail
  go_ret
  exact ⟨x, m2, rfl, H2.out, ((Env.refl w).alloc _).trans N2.out, HX.out.ahead L1.out (fun _ h => h.elim) (fun _ => trivial)⟩
end Go.Proofs.YtcdmdkgiabfbeaaGreatDoor

/-
  Read.
-/
namespace Go.Proofs.YtcdmdkgiabfbeaaGreatDoor
open Go.RowKit

/-- An open file's bytes from its place on, as its failure cuts them. -/
def readL (t : A) (h : H3) (most : Int) (fl : Fail3) : List UInt8 := leftL (t.bytes h.1) h.2.2 most fl.2.2
def readF (i : Nat) (most : Int) (t : A) (h : H3) (fl : Fail3) : A × Int × List UInt8 :=
  if h.2.1 = 2 then (t, -20, []) else (t.setH i (some (h.1, h.2.1, h.2.2 + (readL t h most fl).length)), 0, readL t h most fl)

/-- A result of bytes in a box: its block was not known in m0. -/
def OutB (m0 : Mem) (v : Value) (m : Mem) (bs : List UInt8) : Prop := Row m v 5 1 bs.length (bs.map byteV) ∧ ∀ b, v.ownBlock = some b → m0 b = none
def BoxB (m0 : Mem) (rb : Nat) (m : Mem) (bs : List UInt8) : Prop := ∃ v, m rb = some (.cells #[v] 26 (0, 0)) ∧ OutB m0 v m bs

theorem OutB.le {m0 m m' : Mem} {v : Value} {bs : List UInt8} (h : OutB m0 v m bs) (l : m.le m') : OutB m0 v m' bs := ⟨h.1.le l, h.2⟩
theorem OutB.low {m0 m1 m : Mem} {v : Value} {bs : List UInt8} (h : OutB m1 v m bs) (l : m0.le m1) : OutB m0 v m bs :=
  ⟨h.1, fun b hb => by
    cases hm : m0 b with
    | none => rfl
    | some o => have := h.2 b hb; rw [l _ _ hm] at this; cases this⟩
theorem BoxB.low {m0 m1 m : Mem} {rb : Nat} {bs : List UInt8} (h : BoxB m1 rb m bs) (l : m0.le m1) : BoxB m0 rb m bs := by
  obtain ⟨v, h1, h2⟩ := h
  exact ⟨v, h1, h2.low l⟩

theorem leftL_length_le (bs : List UInt8) (pos : Nat) (most short : Int) : (leftL bs pos most short).length ≤ bs.length - pos := by
  unfold leftL; rw [List.length_take, List.length_drop]; omega

theorem OutB.set_other {m0 m : Mem} {v : Value} {bs : List UInt8} (h : OutB m0 v m bs) {b : Nat} (o : Obj) {o1 : Obj} (hb : m b = some o1) (ho : ∀ cur fz, o1 ≠ .cells cur 5 fz) : OutB m0 v (m.set b o) bs :=
  ⟨h.1.set_other o (fun e => by
    obtain ⟨cur, fz, hc⟩ := h.1.ty e
    rw [hb] at hc
    exact ho _ _ (Option.some.inj hc)), h.2⟩

/-- No block of a store holds a slice of bytes. -/
theorem SRep.notB {m : Mem} {sb : Nat} {g : G} (r : SRep m sb g) {b : Nat} {c : Array Value} {e : TypeId} {fz : Nat × Nat} (hb : m b = some (.cells c e fz))
    (he : e ≠ 71 ∧ e ≠ 80 ∧ e ≠ 5 ∧ e ≠ 47 ∧ e ≠ 83 ∧ e ≠ 88) : ¬ FP sb g b := by
  have ne : ∀ {c' e' fz'}, m b = some (.cells c' e' fz') → e = e' := fun h => by
    rw [hb] at h; simp only [Option.some.injEq, Obj.cells.injEq] at h; exact h.2.1
  rintro (rfl | rfl | ⟨d, hd, rfl | x⟩ | x | x | ⟨h, hh, rfl⟩)
  · exact he.1 (ne r.store)
  · have := r.map; rw [hb] at this; simp [mapObj] at this
  · exact he.2.1 (ne (r.file d hd))
  · obtain ⟨_, _, hc⟩ := (r.row d hd).ty x; exact he.2.2.1 (ne hc)
  · obtain ⟨_, _, hc⟩ := Row.ty r.fails x; exact he.2.2.2.1 (ne hc)
  · obtain ⟨_, _, hc⟩ := r.opens.ty x; exact he.2.2.2.2.1 (ne hc)
  · exact he.2.2.2.2.2 (ne (r.hnd h hh))

/-- What is known of a store's blocks alone. -/
theorem SRep.keep {m m' : Mem} {sb : Nat} {g : G} (r : SRep m sb g) (k : ∀ b o, FP sb g b → m b = some o → m' b = some o) : SRep m' sb g :=
  { r with
    store := k _ _ (.inl rfl) r.store
    map := k _ _ (.inr (.inl rfl)) r.map
    file := fun e he => k _ _ (.inr (.inr (.inl ⟨e, he, .inl rfl⟩))) (r.file e he)
    row := fun e he => (r.row e he).keep fun b o hb hm => k b o (.inr (.inr (.inl ⟨e, he, .inr hb⟩))) hm
    fails := Row.keep r.fails fun b o hb hm => k b o (.inr (.inr (.inr (.inl hb)))) hm
    opens := r.opens.keep fun b o hb hm => k b o (.inr (.inr (.inr (.inr (.inl hb))))) hm
    hnd := fun h hh => k _ _ (.inr (.inr (.inr (.inr (.inr ⟨h, hh, rfl⟩))))) (r.hnd h hh) }

/-- Another block is written. -/
theorem SRep.other {m : Mem} {sb : Nat} {g : G} (r : SRep m sb g) {b : Nat} (o : Obj) (hb : ¬ FP sb g b) : SRep (m.set b o) sb g :=
  r.keep fun c x hc hx => by rw [Mem.set_ne _ _ (fun e => hb (by rw [← e]; exact hc))]; exact hx

set_option maxHeartbeats 4000000 in
theorem read1_any (sb k p rb : Nat) (g : G) (h : Hnd) (most : Int) (fl : Fail3) (w : World) (m0 m : Mem) (hm : Has w m) (hr : SRep m sb g) (hk : g.O[k]? = some (some h)) (hp : BoxI m p most)
    (hb : BoxB m0 rb m []) (h0 : ∀ b, m b = none → m0 b = none) :
    Calls Tryz.prog 35 #[.pointer (some ⟨h.ob, 0, none⟩), failV fl, .pointer (some ⟨p, 0, none⟩), .pointer (some ⟨rb, 0, none⟩)] w
      (DoR w m sb g (fun b => b = rb) (readF k most g.abs h.abs fl) (BoxB m0 rb)) := by
  obtain ⟨e, he, hfb, hname, hlook⟩ := hr.fileOf hk
  have hob := hr.hnd h (List.mem_of_getElem? hk)
  have hrow := hr.row e he
  have hfile := hr.file e he
  rw [hfb] at hfile
  have hbs : g.abs.bytes h.name = e.bs := by unfold A.bytes; rw [hlook]; rfl
  have hsz := hr.bsz e he
  have hpos := hr.pos h (List.mem_of_getElem? hk)
  obtain ⟨f0, f1, fs⟩ := fl
  have hrl : readL g.abs h.abs most (f0, f1, fs) = leftL e.bs h.pos most fs := by
    show leftL (g.abs.bytes h.name) h.pos most fs = _; rw [hbs]
  have hll := leftL_length_le e.bs h.pos most fs
  have hfr := hm.fresh (Nat.le_refl w.heap.size)
  have HLL := Lib.hid hll
  have HRL := Lib.hid hrl
  have HROW := Lib.hid hrow
  have HFILE := Lib.hid hfile
  have H := Lib.hid hm
  have HR := Lib.hid hr
  have HK := Lib.hid hk
  have HP := Lib.hid hp
  have HB := Lib.hid hb
  have HOB := Lib.hid hob
  have H0 := Lib.hid h0
  have HA := Lib.hid (hm.alloc (.cells #[.int .i64 f0, .int .i64 f1, .int .i64 fs] 47))
  have LA := Lib.hid (Mem.le_set m (.cells #[.int .i64 f0, .int .i64 f1, .int .i64 fs] 47) hfr)
  clear hm hr hob hrow hfile hbs hlook hp he hname hfb hrl hb h0 hfr hll
  simp only [failV]
  by_cases hmode : h.mode = 2
  · have HF : Hid (readF k most g.abs h.abs (f0, f1, fs) = (g.abs, -20, [])) := by
      show (if h.mode = 2 then _ else _) = _; rw [if_pos hmode]
    have HM := Lib.hid hmode
    clear hmode
    go_enter Tryz.func35, Tryz.ntmps35
    go_wp2_with fail
    refine (not_any h.ob h.fb h.mode h.pos 2 _ _ HA.out (LA.out _ _ HOB.out)).mono ?_
    rintro e1 w2 ⟨v, m2, rfl, l2, h2, n2, hv⟩
    rw [if_pos HM.out] at hv
    have HV := Lib.hid hv
    have L2 := Lib.hid l2
    have H2 := Lib.hid h2
    have N2 := Lib.hid n2
    obtain ⟨b, rfl⟩ : ∃ b, v = .iface 104 (.pointer (some ⟨b, 0, none⟩)) := by
      rcases hv with ⟨h, _⟩ | ⟨_, b, h, _⟩
      · cases h
      · exact ⟨b, h⟩
    clear hv l2 h2 n2
    go_wp2_with fail
    go_ret
    rw [HF.out]
    have ll := Mem.le_trans LA.out L2.out
    obtain ⟨v0, hv0, hv1⟩ := HB.out
    exact ⟨_, -20, m2, rfl, H2.out, ((Env.refl w).alloc _).trans N2.out, HV.out, g, HR.out.le ll, (Fr.of_le ll _).mono (fun b hb => .inl (.inl hb)), rfl, rfl, v0, ll _ _ hv0, hv1.le ll⟩
  · have HF : Hid (readF k most g.abs h.abs (f0, f1, fs) = (g.abs.setH k (some (h.name, h.mode, h.pos + (leftL e.bs h.pos most fs).length)), 0, leftL e.bs h.pos most fs)) := by
      show (if h.mode = 2 then _ else _) = _; rw [if_neg hmode, HRL.out]; rfl
    have HM := Lib.hid hmode
    clear hmode
    go_enter Tryz.func35, Tryz.ntmps35
    go_wp2_with fail
    refine (not_any h.ob h.fb h.mode h.pos 2 _ _ HA.out (LA.out _ _ HOB.out)).mono ?_
    rintro e1 w2 ⟨v, m2, rfl, l2, h2, n2, hv⟩
    rw [if_neg HM.out] at hv
    obtain rfl : v = .nilIface := by
      rcases hv with ⟨_, h⟩ | ⟨h, _⟩
      · exact h
      · exact absurd rfl h
    have hbox := l2 _ _ (Mem.set_same m w.heap.size (.cells #[.int .i64 f0, .int .i64 f1, .int .i64 fs] 47))
    have ll := Mem.le_trans LA.out l2
    obtain ⟨v0, hv0, hv1⟩ := HB.out
    have c0 : w2.cell? ⟨p, 0, none⟩ = some (.int .i64 most) := by rw [h2.cell (ll _ _ HP.out)]; rfl
    have b0 : w2.cell? ⟨w.heap.size, 0, none⟩ = some (.int .i64 f0) := by rw [h2.cell hbox]; rfl
    have b1 : w2.cell? ⟨w.heap.size, 1, none⟩ = some (.int .i64 f1) := by rw [h2.cell hbox]; rfl
    have b2 : w2.cell? ⟨w.heap.size, 2, none⟩ = some (.int .i64 fs) := by rw [h2.cell hbox]; rfl
    have HV0 := Lib.hid hv0
    have HV1 := Lib.hid hv1
    have LL := Lib.hid ll
    have H2 := Lib.hid h2
    have N2 := Lib.hid n2
    clear hv l2 h2 n2 hbox ll hv0 hv1
    generalize w.heap.size = tb at *
    go_wp2_with fail
    refine (left_any h.ob h.fb h.pos h.mode most f0 f1 fs e.bv e.bs _ _ H2.out (LL.out _ _ HOB.out) (LL.out _ _ HFILE.out) (HROW.out.le LL.out) hsz hpos).mono ?_
    rintro e1 w3 ⟨y, m3, rfl, l3, h3, n3, hy, hty⟩
    have hle : (leftL e.bs h.pos most fs).length ≤ 1000000 := by have := HLL.out; omega
    have HY := Lib.hid (hy.le l3)
    have HLE := Lib.hid hle
    have L3 := Lib.hid l3
    have H3 := Lib.hid h3
    have N3 := Lib.hid n3
    clear l3 h3 n3 hy hty hle c0 b0 b1 b2
    go_wp2_with fail
    refine (cloneB_any y _ _ _ H3.out HY.out HLE.out).mono ?_
    rintro e1 w4 ⟨c, m4, rfl, l4, h4, n4, hc, hcf⟩
    obtain ⟨va, vc, rfl, hvc⟩ := hc.lenV
    have L4 := Lib.hid (Mem.le_trans LL.out (Mem.le_trans L3.out l4))
    have H4 := Lib.hid h4
    have N4 := Lib.hid (N2.out.trans (N3.out.trans n4))
    have HC := Lib.hid hc
    have HCF := Lib.hid hcf
    have d0 : w4.cell? ⟨rb, 0, none⟩ = some v0 := by rw [h4.cell (L4.out _ _ HV0.out)]; rfl
    have d1 : w4.frozen? ⟨rb, 0, none⟩ = false := h4.froz (L4.out _ _ HV0.out)
    clear l4 h4 n4 hc hcf
    go_wp2_with fail
    have rne : h.ob ≠ rb := fun e => by
      have h1 := HV0.out
      rw [← e, HOB.out] at h1
      simp [hndObj] at h1
    have hob5 : (m4.set rb (.cells #[.slice va (leftL e.bs h.pos most fs).length vc] 26 (0, 0))) h.ob = some (hndObj h) := by rw [Mem.set_ne _ _ rne]; exact L4.out _ _ HOB.out
    refine wp_opaque w _ (H4.out.storeTo (off := 0) (c' := #[.slice va (leftL e.bs h.pos most fs).length vc]) (L4.out _ _ HV0.out) _ (by simp)) ((((Env.refl w).alloc _).trans N4.out).setCell _ _) ?_
    intro w5 h5 n5
    have e0 : w5.cell? ⟨h.ob, 2, none⟩ = some (.int .i64 h.pos) := by rw [h5.cell hob5]; rfl
    have e1 : w5.frozen? ⟨h.ob, 2, none⟩ = false := h5.froz hob5
    have e2 : w5.cell? ⟨rb, 0, none⟩ = some (.slice va (leftL e.bs h.pos most fs).length vc) := by rw [h5.cell (Mem.set_same _ _ _)]; rfl
    have wk : IntKind.i64.wrap ((h.pos : Int) + ((leftL e.bs h.pos most fs).length : Int)) = (h.pos : Int) + ((leftL e.bs h.pos most fs).length : Int) := by
      have := HLE.out
      simp [IntKind.wrap, IntKind.signed, IntKind.bits]; omega
    have H5 := Lib.hid h5
    have N5 := Lib.hid n5
    have HOB5 := Lib.hid hob5
    clear h5 n5 hob5 d0 d1
    refine wp_region_K 9 (fun w' => w'.cell? ⟨h.ob, 2, none⟩ = some (.int .i64 h.pos) ∧ w'.cell? ⟨rb, 0, none⟩ = some (.slice va (leftL e.bs h.pos most fs).length vc)) (by kernel_rfl) ?_
    have hS : (fun w' : World => w'.cell? ⟨h.ob, 2, none⟩ = some (.int .i64 h.pos) ∧ w'.cell? ⟨rb, 0, none⟩ = some (.slice va (leftL e.bs h.pos most fs).length vc)) w5.drew := ⟨e0, e2⟩
    refine wpAnyK_take (i := 0) (v := ?_) rfl (by kernel_rfl) (by kernel_rfl) (by kernel_rfl) (by kernel_rfl) (fun _ _ _ h => h) (Or.inl ⟨by rfl, ?_⟩) hS ?_
    rotate_left
    · intro w0 hS0; obtain ⟨q0, q1⟩ := hS0; go_simp; try with_reducible rfl
    simp only [Act.put, List.setIfInBounds_toArray, List.set_cons_zero, List.set_cons_succ, List.getElem_toArray, List.getElem_cons_succ, List.getElem_cons_zero]
    refine wpAnyK_take (i := 1) (v := ?_) rfl (by kernel_rfl) (by kernel_rfl) (by kernel_rfl) (by kernel_rfl) (fun _ _ _ h => h) (Or.inl ⟨by rfl, ?_⟩) hS ?_
    rotate_left
    · intro w0 hS0; obtain ⟨q0, q1⟩ := hS0; go_simp; try with_reducible rfl
    simp only [Act.put, List.setIfInBounds_toArray, List.set_cons_zero, List.set_cons_succ, List.getElem_toArray, List.getElem_cons_succ, List.getElem_cons_zero]
    refine wpAnyK_take (i := 2) (v := ?_) rfl (by kernel_rfl) (by kernel_rfl) (by kernel_rfl) (by kernel_rfl) (fun _ _ _ h => h) (Or.inl ⟨by rfl, ?_⟩) hS ?_
    rotate_left
    · intro w0 hS0; obtain ⟨q0, q1⟩ := hS0; go_simp; try with_reducible rfl
    simp only [Act.put, List.setIfInBounds_toArray, List.set_cons_zero, List.set_cons_succ, List.getElem_toArray, List.getElem_cons_succ, List.getElem_cons_zero]
    refine wpAnyK_take (i := 3) (v := ?_) rfl (by kernel_rfl) (by kernel_rfl) (by kernel_rfl) (by kernel_rfl) (fun _ _ _ h => h) (Or.inl ⟨by rfl, ?_⟩) hS ?_
    rotate_left
    · intro w0 hS0; obtain ⟨q0, q1⟩ := hS0; go_simp; try with_reducible rfl
    simp only [Act.put, List.setIfInBounds_toArray, List.set_cons_zero, List.set_cons_succ, List.getElem_toArray, List.getElem_cons_succ, List.getElem_cons_zero]
    refine wpAnyK_take (i := 4) (v := ?_) rfl (by kernel_rfl) (by kernel_rfl) (by kernel_rfl) (by kernel_rfl) (fun _ _ _ h => h) (Or.inl ⟨by rfl, ?_⟩) hS ?_
    rotate_left
    · intro w0 hS0; obtain ⟨q0, q1⟩ := hS0; go_simp; try with_reducible rfl
    simp only [Act.put, List.setIfInBounds_toArray, List.set_cons_zero, List.set_cons_succ, List.getElem_toArray, List.getElem_cons_succ, List.getElem_cons_zero]
    refine wpAnyK_take (i := 5) (v := ?_) rfl (by kernel_rfl) (by kernel_rfl) (by kernel_rfl) (by kernel_rfl) (fun _ _ _ h => h) (Or.inl ⟨by rfl, ?_⟩) hS ?_
    rotate_left
    · intro w0 hS0; obtain ⟨q0, q1⟩ := hS0; go_simp; try with_reducible rfl
    simp only [Act.put, List.setIfInBounds_toArray, List.set_cons_zero, List.set_cons_succ, List.getElem_toArray, List.getElem_cons_succ, List.getElem_cons_zero]
    refine wpAnyK_take (i := 6) (v := ?_) rfl (by kernel_rfl) (by kernel_rfl) (by kernel_rfl) (by kernel_rfl) (fun _ _ _ h => h) (Or.inl ⟨by rfl, ?_⟩) hS ?_
    rotate_left
    · intro w0 hS0; obtain ⟨q0, q1⟩ := hS0; go_simp; try with_reducible rfl
    simp only [Act.put, List.setIfInBounds_toArray, List.set_cons_zero, List.set_cons_succ, List.getElem_toArray, List.getElem_cons_succ, List.getElem_cons_zero]
    refine wpAnyK_take (i := 7) (v := ?_) rfl (by kernel_rfl) (by kernel_rfl) (by kernel_rfl) (by kernel_rfl) (fun _ _ _ h => h) (Or.inl ⟨by rfl, ?_⟩) hS ?_
    rotate_left
    · intro w0 hS0; obtain ⟨q0, q1⟩ := hS0; go_simp; try with_reducible rfl
    simp only [Act.put, List.setIfInBounds_toArray, List.set_cons_zero, List.set_cons_succ, List.getElem_toArray, List.getElem_cons_succ, List.getElem_cons_zero]
    refine wpAnyK_take (i := 8) (v := ?_) rfl (by kernel_rfl) (by kernel_rfl) (by kernel_rfl) (by kernel_rfl) (fun _ _ _ h => h) (Or.inl ⟨by rfl, ?_⟩) hS ?_
    rotate_left
    · intro w0 hS0; obtain ⟨q0, q1⟩ := hS0; go_simp; try with_reducible rfl
    simp only [Act.put, List.setIfInBounds_toArray, List.set_cons_zero, List.set_cons_succ, List.getElem_toArray, List.getElem_cons_succ, List.getElem_cons_zero]
    refine wpAnyK_one (i := 9) rfl (by kernel_rfl) rfl ?_
    go_simp
    refine wpAnyK_done (by kernel_rfl) ?_ _
    go_wp2_with fail
    go_ret
    rw [HF.out]
    have r4 := HR.out.le L4.out
    have nrb := HR.out.notB HV0.out (by decide)
    have r5 := r4.other (.cells #[.slice va (leftL e.bs h.pos most fs).length vc] 26 (0, 0)) nrb
    have hpl : h.pos + (leftL e.bs h.pos most fs).length ≤ 262144 := by
      have := HLL.out
      omega
    have hst := H5.out.drew.storeTo (off := 2) (c' := #[.pointer (some ⟨h.fb, 0, none⟩), .int .i64 h.mode, .int .i64 ((h.pos : Int) + ((leftL e.bs h.pos most fs).length : Int))]) HOB5.out (.int .i64 ((h.pos : Int) + ((leftL e.bs h.pos most fs).length : Int))) (by simp)
    have hobj : (.cells #[.pointer (some ⟨h.fb, 0, none⟩), .int .i64 h.mode, .int .i64 ((h.pos : Int) + ((leftL e.bs h.pos most fs).length : Int))] 88 (0, 0) : Obj) = hndObj { h with mode := h.mode, pos := h.pos + (leftL e.bs h.pos most fs).length } := by
      unfold hndObj; simp only [Int.natCast_add]
    rw [hobj] at hst
    refine ⟨.nilIface, 0, _, rfl, hst, N5.out.drew.setCell _ _, .inl ⟨rfl, rfl⟩, _, r5.setH HK.out h.mode _ hpl, ?_, ?_, rfl, ?_⟩
    · refine ((Fr.of_le L4.out (fun b => FP sb g b ∨ b = rb)).trans (Fr.set _ (.inl (.inr rfl)))).trans ((SRep.setH_fr HK.out h.mode (h.pos + (leftL e.bs h.pos most fs).length) _).more _)
    · rw [abs_setH _ _ _ ((List.getElem?_eq_some_iff.1 HK.out).1)]; rfl
    · refine ⟨_, by rw [Mem.set_ne _ _ (Ne.symm rne)]; exact Mem.set_same _ _ _, ?_⟩
      have o1 : OutB m0 (.slice va (leftL e.bs h.pos most fs).length vc) m4 (leftL e.bs h.pos most fs) := ⟨HC.out, fun b hb => H0.out b (Mem.none_le LL.out (Mem.none_le L3.out (HCF.out b hb)))⟩
      exact (o1.set_other _ (L4.out _ _ HV0.out) (by simp)).set_other _ HOB5.out (by simp [hndObj])
/-- What an operation answers that yields something beside. -/
def AnsB (w : World) (R : Value → Mem → Int → Prop) (e : Ending) (w2 : World) : Prop :=
  ∃ v x m2, e = .returned (.tuple #[v, .int .i64 x]) ∧ Has w2 m2 ∧ Env w w2 ∧ R v m2 x

theorem Has.same {w : World} {m : Mem} (h : Has w m) {b : Nat} {c : Array Value} {e : TypeId} {fz : Nat × Nat} {off : Nat} {v : Value} (hb : m b = some (.cells c e fz)) (hv : c.setIfInBounds off v = c) : Has (w.setCell ⟨b, off, none⟩ v) m := by
  have := h.storeTo hb v hv
  rwa [Mem.set_eq _ hb] at this

theorem enters_read1 : Enters 35 := fun _ _ => by kernel_rfl

set_option maxHeartbeats 1000000 in
theorem read_any (sb : Nat) (id most : Int) (g : G) (w : World) (m : Mem) (hm : Has w m) (hr : SRep m sb g) (hG : GlobOk m) (h0 : ¬ FP sb g 0) (hn : g.n ≤ 999999) :
    Calls Tryz.prog 9 #[.pointer (some ⟨sb, 0, none⟩), .int .i64 id, .int .i64 most] w
      (AnsB w fun v m2 x => OpR m sb g (fun _ => False) (A.withA g.abs id [] (readF (id - 1).toNat most)) (fun m2 bs => OutB m v m2 bs) m2 x) := by
  have hfr := hm.fresh (Nat.le_refl w.heap.size)
  have h1 := hm.alloc (.cells #[.int .i64 most] 3)
  have l1 := Mem.le_set m (.cells #[.int .i64 most] 3) hfr
  have hfr2 := h1.fresh (Nat.le_refl _)
  have h2 := h1.alloc (.cells #[.slice none 0 0] 26)
  have l2 := Mem.le_set _ (.cells #[.slice none 0 0] 26) hfr2
  have hsz : (w.alloc (.cells #[.int .i64 most] 3)).heap.size = w.heap.size + 1 := by simp
  rw [hsz] at h2 l2 hfr2
  have l12 := Mem.le_trans l1 l2
  have hE0 : ¬ ((0 : Nat) = w.heap.size + 1) := by omega
  have hnsb : sb ≠ w.heap.size := Ne.symm (Mem.ne_of_none hfr hr.store)
  have hnsb2 : sb ≠ w.heap.size + 1 := Ne.symm (Mem.ne_of_none hfr2 (l1 _ _ hr.store))
  have hb0 : BoxB m (w.heap.size + 1) (((m.set w.heap.size (.cells #[.int .i64 most] 3)).set (w.heap.size + 1) (.cells #[.slice none 0 0] 26)).set sb (storeObj g.tick)) [] :=
    ⟨.slice none 0 0, by rw [Mem.set_ne _ _ (Ne.symm hnsb2), Mem.set_same], Row.nil _ _ _, fun b hb => by cases hb⟩
  have hW := with_op [] (readF (id - 1).toNat most) (BoxB m (w.heap.size + 1)) (fun b => b = w.heap.size + 1) sb id g 35 #[.pointer (some ⟨w.heap.size, 0, none⟩), .pointer (some ⟨w.heap.size + 1, 0, none⟩)] _ _ h2 (hr.le l12) (hG.le l12) h0 hE0 hn enters_read1
    (fun k h hk hid w1 m1 l3 hw1 hr1 => by
      have hbox : BoxI m1 w.heap.size most := l3 _ _ (by
        rw [Mem.set_ne _ _ (Ne.symm hnsb), Mem.set_ne _ _ (by omega)]
        exact Mem.set_same _ _ _)
      have hk' : (id - 1).toNat = k := by omega
      rw [hk']
      obtain ⟨v, b1, b2⟩ := hb0
      exact read1_any sb k w.heap.size (w.heap.size + 1) g.tick h most g.now w1 m m1 hw1 hr1 hk hbox ⟨v, l3 _ _ b1, b2.le l3⟩ (fun b hb => Mem.none_set (Mem.none_set (Mem.none_set (Mem.none_le l3 hb)))))
    (fun m1 l3 => by obtain ⟨v, b1, b2⟩ := hb0; exact ⟨v, l3 _ _ b1, b2.le l3⟩)
  have HW := Lib.hid hW
  have L12 := Lib.hid l12
  have HFR := Lib.hid hfr
  have HFR2 := Lib.hid hfr2
  have HO := Lib.hid hr
  clear hm hr hG h1 h2 l1 l2 l12 hW hfr hfr2 hb0
  go_enter Tryz.func9, Tryz.ntmps9
  go_wp2_with fail
  refine HW.out.mono ?_
  rintro e w2 ⟨x, m2, rfl, h2, n2, hx⟩
  obtain ⟨g2, x1, x2, x3, x4, x5⟩ := hx
  obtain ⟨v, hv1, hv2⟩ := x5
  obtain ⟨va, vc, rfl, hvc⟩ := hv2.1.lenV
  have c0 := h2.cell (o := 0) hv1
  have f0 : w2.frozen? ⟨w.heap.size + 1, 0, none⟩ = false := h2.froz hv1
  have c0' : w2.cell? ⟨w.heap.size + 1, 0, none⟩ = some (.slice va (A.withA g.abs id [] (readF (id - 1).toNat most)).2.2.length vc) := by rw [c0]; rfl
  have H2 := Lib.hid h2
  have N2 := Lib.hid n2
  have X1 := Lib.hid x1
  have X2 := Lib.hid x2
  have X3 := Lib.hid x3
  have X4 := Lib.hid x4
  have HV1 := Lib.hid hv1
  have HV2 := Lib.hid hv2
  clear h2 n2 x1 x2 x3 x4 hv1 hv2 c0
  go_wp2_with fail
  refine bodyPost_ret (v := .tuple #[.slice va (A.withA g.abs id [] (readF (id - 1).toNat most)).2.2.length vc, .int .i64 x]) (by simp [results, Tryz.results9, go_sem, c0']) rfl ?_
  refine ⟨_, x, m2, rfl, H2.out.same HV1.out (by simp), ((((Env.refl w).alloc _).alloc _).trans N2.out).setCell _ _, ?_⟩
  have hop : OpR _ sb g (fun b => b = w.heap.size + 1) (A.withA g.abs id [] (readF (id - 1).toNat most)) (fun m2 bs => OutB m (.slice va (A.withA g.abs id [] (readF (id - 1).toNat most)).2.2.length vc) m2 bs) m2 x := ⟨g2, X1.out, X2.out, X3.out, X4.out, HV2.out⟩
  exact hop.ahead L12.out (fun b hb => by subst hb; exact Mem.none_set HFR2.out) (fun h => h)
end Go.Proofs.YtcdmdkgiabfbeaaGreatDoor

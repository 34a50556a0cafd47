/-
  What a store is, its memory forgotten: what is looked up by a name, how many files, the open files by their numbers, the fails, the operations. And how a store in memory changes: an open file's place, a file's bytes, an open file closed.
-/
import Derived.Test.YtcdmdkgiabfbeaaDoorWith
namespace Go.Proofs.YtcdmdkgiabfbeaaDoor
open Go.RowKit

abbrev H3 := ByteArray × Int × Nat

structure A where
  look : ByteArray → Option (List UInt8)
  count : Nat
  hnd : Nat → Option H3
  fails : List Fail3
  n : Nat

namespace A
def now (a : A) : Fail3 := failAt a.fails (a.n + 1)
def tick (a : A) : A := { a with n := a.n + 1 }
def got (a : A) (id : Int) : Option H3 := if 1 ≤ id ∧ id ≤ 32 then a.hnd (id - 1).toNat else none
def setH (a : A) (i : Nat) (x : Option H3) : A := { a with hnd := fun j => if j = i then x else a.hnd j }
def setF (a : A) (s : ByteArray) (bs : List UInt8) : A := { a with look := fun t => if t = s then some bs else a.look t }
def bytes (a : A) (s : ByteArray) : List UInt8 := (a.look s).getD []
def withA {β : Type} (a : A) (id : Int) (d : β) (f : A → H3 → Fail3 → A × Int × β) : A × Int × β :=
  if a.now.2.1 ≠ 0 then (a.tick, a.now.2.1, d) else match a.got id with | none => (a.tick, -37, d) | some h => f a.tick h a.now
end A

def Hnd.abs (h : Hnd) : H3 := (h.name, h.mode, h.pos)
def G.abs (g : G) : A := { look := fun s => (getE g.L s).map (·.bs), count := g.L.length, hnd := fun i => ((g.O[i]?).join).map Hnd.abs, fails := g.fails, n := g.n }

theorem G.abs_tick (g : G) : g.tick.abs = g.abs.tick := rfl
theorem G.abs_now (g : G) : g.abs.now = g.now := rfl
theorem G.abs_got (g : G) (hl : g.O.length ≤ 32) (id : Int) : g.abs.got id = (hndAt g.O id).map Hnd.abs := by
  unfold A.got hndAt
  by_cases h : 1 ≤ id ∧ id ≤ g.O.length
  · rw [if_pos h, if_pos (by omega)]; rfl
  · rw [if_neg h]
    by_cases h2 : 1 ≤ id ∧ id ≤ 32
    · rw [if_pos h2]
      show ((g.O[(id - 1).toNat]?).join).map Hnd.abs = none
      rw [List.getElem?_eq_none (by omega)]; rfl
    · rw [if_neg h2]; rfl

theorem getE_name {L : List Ent} {s : ByteArray} {e : Ent} (h : getE L s = some e) : e.name = s := by
  have := List.find?_some h
  simpa using (of_decide_eq_true this).symm
theorem getE_mem {L : List Ent} {s : ByteArray} {e : Ent} (h : getE L s = some e) : e ∈ L := List.mem_of_find?_eq_some h
theorem getE_of {L : List Ent} (hn : (L.map (·.name)).Nodup) {e : Ent} (he : e ∈ L) : getE L e.name = some e := by
  unfold getE
  induction L with
  | nil => cases he
  | cons d L ih =>
    rw [List.find?_cons]
    simp only [List.map_cons, List.nodup_cons] at hn
    rcases List.mem_cons.1 he with rfl | he
    · simp
    · have : ¬ e.name = d.name := fun h => hn.1 (by rw [← h]; exact List.mem_map_of_mem he)
      simp only [this, decide_false]
      exact ih hn.2 he

/-- An open file's file. -/
theorem SRep.fileOf {m : Mem} {sb : Nat} {g : G} (r : SRep m sb g) {k : Nat} {h : Hnd} (hk : g.O[k]? = some (some h)) :
    ∃ e ∈ g.L, e.fb = h.fb ∧ e.name = h.name ∧ g.abs.look h.name = some e.bs := by
  obtain ⟨e, he, h1, h2⟩ := r.hof h (List.mem_of_getElem? hk)
  refine ⟨e, he, h1, h2, ?_⟩
  show (getE g.L h.name).map (·.bs) = _
  rw [← h2, getE_of r.names he]; rfl

/-! ### an open file's place -/
theorem SRep.setH {m : Mem} {sb : Nat} {g : G} (r : SRep m sb g) {k : Nat} {h : Hnd} (hk : g.O[k]? = some (some h)) (mode : Int) (p : Nat) (hp : p ≤ 262144) :
    SRep (m.set h.ob (hndObj { h with mode := mode, pos := p })) sb { g with O := g.O.set k (some { h with mode := mode, pos := p }) } := by
  have hm : some h ∈ g.O := List.mem_of_getElem? hk
  have hlt : k < g.O.length := (List.getElem?_eq_some_iff.1 hk).1
  have hob := r.hnd h hm
  refine r.reopen g.ov _ ?_ ?_ ?_ ?_ ?_ ?_
  · rw [Mem.set_ne _ _ (by intro e; rw [← e, r.store] at hob; simp [storeObj, hndObj] at hob)]; exact r.store
  · intro b o hb _ _
    by_cases e : b = h.ob
    · exact .inr ⟨h, hm, e⟩
    · exact .inl (by rw [Mem.set_ne _ _ e]; exact hb)
  · have hrow := r.opens.set_other (hndObj { h with mode := mode, pos := p }) (b := h.ob) (fun e => by
      obtain ⟨cur, fz, hc⟩ := r.opens.ty e; rw [hob] at hc; simp [hndObj] at hc)
    have : (g.O.set k (some { h with mode := mode, pos := p })).map hndV = g.O.map hndV := by
      apply List.ext_getElem?
      intro i
      rw [List.getElem?_map, List.getElem?_map, List.getElem?_set]
      by_cases e : k = i
      · subst e; rw [if_pos rfl, if_pos hlt, hk]; rfl
      · rw [if_neg e]
    rw [this, List.length_set]
    exact hrow
  · intro j hj
    rcases List.mem_or_eq_of_mem_set hj with hj' | hj'
    · by_cases e : j.ob = h.ob
      · obtain ⟨i, hi, hij⟩ := List.getElem_of_mem hj
        rw [List.getElem_set] at hij
        by_cases eki : k = i
        · rw [if_pos eki] at hij
          obtain rfl := Option.some.inj hij
          exact ⟨Mem.set_same _ _ _, r.hof h hm, hp⟩
        · rw [if_neg eki] at hij
          have hi' : g.O[i]? = some (some j) := by rw [List.getElem?_eq_getElem (by simpa using hi), hij]
          exact absurd (r.obs _ _ _ _ hk hi' e.symm) eki
      · exact ⟨by rw [Mem.set_ne _ _ e]; exact r.hnd j hj', r.hof j hj', r.pos j hj'⟩
    · obtain rfl := Option.some.inj hj'
      exact ⟨Mem.set_same _ _ _, r.hof h hm, hp⟩
  · intro i j hi hj h1 h2 e
    have key : ∀ (i : Nat) (x : Hnd), (g.O.set k (some { h with mode := mode, pos := p }))[i]? = some (some x) → ∃ y, g.O[i]? = some (some y) ∧ y.ob = x.ob := fun i x hx => by
      rw [List.getElem?_set] at hx
      by_cases e : k = i
      · subst e
        rw [if_pos rfl, if_pos hlt] at hx
        simp only [Option.some.injEq] at hx
        subst hx
        exact ⟨h, hk, rfl⟩
      · rw [if_neg e] at hx; exact ⟨x, hx, rfl⟩
    obtain ⟨y1, a1, b1⟩ := key i hi h1
    obtain ⟨y2, a2, b2⟩ := key j hj h2
    exact r.obs _ _ _ _ a1 a2 (by rw [b1, b2, e])
  · simpa using r.olen

theorem SRep.setH_fr {m : Mem} {sb : Nat} {g : G} {k : Nat} {h : Hnd} (hk : g.O[k]? = some (some h)) (mode : Int) (p : Nat) (o : Obj) :
    Fr m (m.set h.ob o) (FP sb g) (FP sb { g with O := g.O.set k (some { h with mode := mode, pos := p }) }) := by
  have hm : some h ∈ g.O := List.mem_of_getElem? hk
  refine (Fr.set o (.inl (.inr (.inr (.inr (.inr (.inr ⟨h, hm, rfl⟩))))))).mono ?_
  rintro b (x | x | x | x | x | ⟨y, hy, rfl⟩)
  · exact .inl (.inl x)
  · exact .inl (.inr (.inl x))
  · exact .inl (.inr (.inr (.inl x)))
  · exact .inl (.inr (.inr (.inr (.inl x))))
  · exact .inl (.inr (.inr (.inr (.inr (.inl x)))))
  · rcases List.mem_or_eq_of_mem_set hy with hy | hy
    · exact .inl (.inr (.inr (.inr (.inr (.inr ⟨y, hy, rfl⟩)))))
    · obtain rfl := Option.some.inj hy
      exact .inl (.inr (.inr (.inr (.inr (.inr ⟨h, hm, rfl⟩)))))

theorem abs_setH (g : G) (k : Nat) (x : Option Hnd) (hk : k < g.O.length) : ({ g with O := g.O.set k x } : G).abs = g.abs.setH k (x.map Hnd.abs) := by
  simp only [G.abs, A.setH, A.mk.injEq, true_and, and_true]
  funext i
  rw [List.getElem?_set]
  by_cases e : k = i
  · subst e; rw [if_pos rfl, if_pos hk]; simp
  · rw [if_neg e, if_neg (Ne.symm e)]

/-! ### a file's bytes -/
def setL (L : List Ent) (fb : Nat) (bv : Value) (bs : List UInt8) : List Ent := L.map fun d => if d.fb = fb then { d with bv := bv, bs := bs } else d

theorem setL_map {β : Type} (f : Ent → β) (hf : ∀ (d : Ent) bv bs, f { d with bv := bv, bs := bs } = f d) (L : List Ent) (fb : Nat) (bv : Value) (bs : List UInt8) : (setL L fb bv bs).map f = L.map f := by
  unfold setL
  rw [List.map_map]
  refine List.map_congr_left fun d _ => ?_
  simp only [Function.comp]
  split
  · exact hf _ _ _
  · rfl
theorem setL_mem {L : List Ent} {fb : Nat} {bv : Value} {bs : List UInt8} {d : Ent} (h : d ∈ setL L fb bv bs) : ∃ c ∈ L, (c.fb = fb ∧ d = { c with bv := bv, bs := bs }) ∨ (c.fb ≠ fb ∧ d = c) := by
  obtain ⟨c, hc, rfl⟩ := List.mem_map.1 h
  refine ⟨c, hc, ?_⟩
  by_cases e : c.fb = fb
  · exact .inl ⟨e, by simp [e]⟩
  · exact .inr ⟨e, by simp [e]⟩
theorem setL_obj (L : List Ent) (fb : Nat) (bv : Value) (bs : List UInt8) (c : Nat) : mapObj (setL L fb bv bs) c = mapObj L c := by
  unfold mapObj
  rw [setL_map Ent.entry (fun _ _ _ => rfl)]

theorem nodup_inj {α β : Type} {f : α → β} : ∀ {L : List α}, (L.map f).Nodup → ∀ {a b : α}, a ∈ L → b ∈ L → f a = f b → a = b
  | [], _, _, _, h, _, _ => by cases h
  | d :: L, hn, a, b, ha, hb, e => by
    simp only [List.map_cons, List.nodup_cons] at hn
    rcases List.mem_cons.1 ha with rfl | ha' <;> rcases List.mem_cons.1 hb with rfl | hb'
    · rfl
    · exact absurd (by rw [e]; exact List.mem_map_of_mem hb') hn.1
    · exact absurd (by rw [← e]; exact List.mem_map_of_mem ha') hn.1
    · exact nodup_inj hn.2 ha' hb' e

theorem SRep.setF {m m1 : Mem} {sb : Nat} {g : G} (r : SRep m sb g) {e : Ent} (he : e ∈ g.L) (bv' : Value) (bs' : List UInt8) (hg : Grows m m1 e.bv bv')
    (hrow : Row (m1.set e.fb (.cells #[bv'] 62 (0, 0))) bv' 5 1 bs'.length (bs'.map byteV)) (hb : bs'.length ≤ 262144) :
    SRep (m1.set e.fb (.cells #[bv'] 62 (0, 0))) sb { g with L := setL g.L e.fb bv' bs' } := by
  have hfe := r.file e he
  have key : ∀ {b : Nat} {o : Obj}, m b = some o → b ≠ e.fb → e.bv.ownBlock ≠ some b → (m1.set e.fb (.cells #[bv'] 62 (0, 0))) b = some o := fun {b o} h1 h2 h3 => by
    rw [Mem.set_ne _ _ h2]; exact hg.keep h1 h3
  have own : ∀ {b : Nat} {o : Obj}, m b = some o → (∀ cur fz, o ≠ .cells cur 5 fz) → e.bv.ownBlock ≠ some b := fun {b o} h1 h2 h3 => by
    obtain ⟨cur, fz, hc⟩ := (r.row e he).ty h3
    rw [h1] at hc
    exact h2 _ _ (Option.some.inj hc)
  have nfb : ∀ {b : Nat} {o : Obj}, m b = some o → o ≠ fileObj e → b ≠ e.fb := fun {b o} h1 h2 h3 => by
    subst h3; rw [hfe] at h1; exact h2 (Option.some.inj h1).symm
  have key2 : ∀ {b : Nat} {o : Obj}, m b = some o → (∀ cur fz, o ≠ .cells cur 5 fz) → (∀ cur fz, o ≠ .cells cur 62 fz) → (m1.set e.fb (.cells #[bv'] 62 (0, 0))) b = some o := fun h1 h2 h3 =>
    key h1 (nfb h1 (h3 _ _)) (own h1 h2)
  have sepNew : ∀ d ∈ g.L, d.fb ≠ e.fb → ∀ b, bv'.ownBlock = some b → d.bv.ownBlock ≠ some b := fun d hd hne b h1 h2 => by
    obtain ⟨cur, fz, hc⟩ := (r.row d hd).ty h2
    rcases hg with ⟨_, h3⟩ | ⟨gb, o, h3, _, h4⟩
    · rw [h3] at h1
      exact r.sep e he d hd (Ne.symm hne) b h1 h2
    · rw [h1] at h3
      obtain rfl := Option.some.inj h3
      rcases h4 with h4 | h4
      · exact r.sep e he d hd (Ne.symm hne) b h4 h2
      · rw [hc] at h4; cases h4
  exact { r with
    store := key2 r.store (by simp [storeObj]) (by simp [storeObj])
    map := by
      show (m1.set e.fb (.cells #[bv'] 62 (0, 0))) g.mb = some (mapObj (setL g.L e.fb bv' bs') g.clock)
      rw [setL_obj]; exact key2 r.map (by simp [mapObj]) (by simp [mapObj])
    file := fun d hd => by
      obtain ⟨c, hc, ⟨h1, rfl⟩ | ⟨h1, rfl⟩⟩ := setL_mem hd
      · show (m1.set e.fb (.cells #[bv'] 62 (0, 0))) c.fb = _
        rw [h1, Mem.set_same]; rfl
      · exact key (r.file d hc) h1 (own (r.file d hc) (by simp [fileObj]))
    row := fun d hd => by
      obtain ⟨c, hc, ⟨h1, rfl⟩ | ⟨h1, rfl⟩⟩ := setL_mem hd
      · exact hrow
      · refine (r.row d hc).keep fun b o hb hm => ?_
        obtain ⟨cur, fz, hx⟩ := (r.row d hc).ty hb
        refine key hm ?_ (fun h2 => r.sep e he d hc (Ne.symm h1) b h2 hb)
        rw [hm] at hx
        exact nfb hm (by rw [Option.some.inj hx]; simp [fileObj])
    names := by show ((setL g.L e.fb bv' bs').map (·.name)).Nodup; rw [setL_map (·.name) (fun _ _ _ => rfl)]; exact r.names
    fbs := by show ((setL g.L e.fb bv' bs').map (·.fb)).Nodup; rw [setL_map (·.fb) (fun _ _ _ => rfl)]; exact r.fbs
    sep := fun d hd d' hd' hne b h1 h2 => by
      obtain ⟨c, hc, ⟨x1, rfl⟩ | ⟨x1, rfl⟩⟩ := setL_mem hd <;> obtain ⟨c', hc', ⟨x2, rfl⟩ | ⟨x2, rfl⟩⟩ := setL_mem hd'
      · exact hne (x1.trans x2.symm)
      · exact sepNew _ hc' x2 b h1 h2
      · exact sepNew _ hc x1 b h2 h1
      · exact r.sep _ hc _ hc' hne b h1 h2
    bornN := by show ((setL g.L e.fb bv' bs').map (·.born)).Nodup; rw [setL_map (·.born) (fun _ _ _ => rfl)]; exact r.bornN
    bornC := fun d hd => by
      obtain ⟨c, hc, ⟨h1, rfl⟩ | ⟨h1, rfl⟩⟩ := setL_mem hd
      · exact r.bornC c hc
      · exact r.bornC d hc
    fails := Row.keep r.fails fun b o hb hm => by
      obtain ⟨cur, fz, hx⟩ := Row.ty r.fails hb
      rw [hm] at hx
      exact key2 hm (by rw [Option.some.inj hx]; simp) (by rw [Option.some.inj hx]; simp)
    opens := r.opens.keep fun b o hb hm => by
      obtain ⟨cur, fz, hx⟩ := r.opens.ty hb
      rw [hm] at hx
      exact key2 hm (by rw [Option.some.inj hx]; simp) (by rw [Option.some.inj hx]; simp)
    hnd := fun h hh => key2 (r.hnd h hh) (by simp [hndObj]) (by simp [hndObj])
    hof := fun h hh => by
      obtain ⟨c, hc, h1, h2⟩ := r.hof h hh
      refine ⟨if c.fb = e.fb then { c with bv := bv', bs := bs' } else c, List.mem_map_of_mem hc, ?_, ?_⟩
      · split <;> exact h1
      · split <;> exact h2
    llen := by show (setL g.L e.fb bv' bs').length ≤ 100; unfold setL; rw [List.length_map]; exact r.llen
    nm := fun d hd => by
      obtain ⟨c, hc, ⟨h1, rfl⟩ | ⟨h1, rfl⟩⟩ := setL_mem hd
      · exact r.nm c hc
      · exact r.nm d hc
    bsz := fun d hd => by
      obtain ⟨c, hc, ⟨h1, rfl⟩ | ⟨h1, rfl⟩⟩ := setL_mem hd
      · exact hb
      · exact r.bsz d hc }

theorem SRep.setF_fr {m m1 : Mem} {sb : Nat} {g : G} {e : Ent} (he : e ∈ g.L) (bv' : Value) (bs' : List UInt8) (hg : Grows m m1 e.bv bv') (o : Obj) :
    Fr m (m1.set e.fb o) (FP sb g) (FP sb { g with L := setL g.L e.fb bv' bs' }) := by
  have hown : ∀ b, e.bv.ownBlock = some b → FP sb g b := fun b hb => .inr (.inr (.inl ⟨e, he, .inr hb⟩))
  have hfb : FP sb g e.fb := .inr (.inr (.inl ⟨e, he, .inl rfl⟩))
  constructor
  · intro b x hb hp
    rw [Mem.set_ne _ _ (fun h => hp (by rw [h]; exact hfb))]
    exact hg.keep hb (fun h => hp (hown b h))
  · rintro b (x | x | ⟨d, hd, x⟩ | x | x | x)
    · exact .inl (.inl x)
    · exact .inl (.inr (.inl x))
    · obtain ⟨c, hc, ⟨h1, rfl⟩ | ⟨h1, rfl⟩⟩ := setL_mem hd
      · rcases x with x | x
        · exact .inl (.inr (.inr (.inl ⟨c, hc, .inl x⟩)))
        · rcases hg with ⟨_, h3⟩ | ⟨gb, o', h3, _, h4⟩
          · rw [h3] at x; exact .inl (hown b x)
          · rw [x] at h3
            obtain rfl := Option.some.inj h3
            rcases h4 with h4 | h4
            · exact .inl (hown b h4)
            · exact .inr h4
      · exact .inl (.inr (.inr (.inl ⟨d, hc, x⟩)))
    · exact .inl (.inr (.inr (.inr (.inl x))))
    · exact .inl (.inr (.inr (.inr (.inr (.inl x)))))
    · exact .inl (.inr (.inr (.inr (.inr (.inr x)))))

theorem getE_setL (L : List Ent) (hfb : (L.map (·.fb)).Nodup) (hn : (L.map (·.name)).Nodup) {e : Ent} (he : e ∈ L) (bv : Value) (bs : List UInt8) (s : ByteArray) :
    (getE (setL L e.fb bv bs) s).map (·.bs) = if s = e.name then some bs else (getE L s).map (·.bs) := by
  by_cases h : s = e.name
  · subst h
    rw [if_pos rfl]
    have hmem : ({ e with bv := bv, bs := bs } : Ent) ∈ setL L e.fb bv bs := List.mem_map.2 ⟨e, he, by simp⟩
    have hn' : ((setL L e.fb bv bs).map (·.name)).Nodup := by rw [setL_map (·.name) (fun _ _ _ => rfl)]; exact hn
    rw [show e.name = ({ e with bv := bv, bs := bs } : Ent).name from rfl, getE_of hn' hmem]; rfl
  · rw [if_neg h]
    have hne : ∀ d ∈ L, d.fb = e.fb → d.name ≠ s := fun d hd hf hs => h (by rw [← hs, nodup_inj hfb hd he hf])
    clear hn he hfb h
    induction L with
    | nil => rfl
    | cons d L ih =>
      have ih' := ih fun c hc => hne c (List.mem_cons_of_mem _ hc)
      unfold getE setL at ih' ⊢
      rw [List.map_cons, List.find?_cons, List.find?_cons]
      by_cases hd : d.fb = e.fb
      · have hx := hne d (List.mem_cons_self ..) hd
        have : ¬ s = d.name := fun h => hx h.symm
        simp only [hd, if_true, this, decide_false]
        exact ih'
      · simp only [hd, if_false]
        by_cases hs : s = d.name
        · simp [hs]
        · simp only [hs, decide_false]; exact ih'

theorem abs_setF {m : Mem} {sb : Nat} {g : G} (r : SRep m sb g) {e : Ent} (he : e ∈ g.L) (bv : Value) (bs : List UInt8) : ({ g with L := setL g.L e.fb bv bs } : G).abs = g.abs.setF e.name bs := by
  simp only [G.abs, A.setF, A.mk.injEq, true_and, and_true]
  refine ⟨?_, by unfold setL; simp⟩
  funext s
  exact getE_setL g.L r.fbs r.names he bv bs s
end Go.Proofs.YtcdmdkgiabfbeaaDoor

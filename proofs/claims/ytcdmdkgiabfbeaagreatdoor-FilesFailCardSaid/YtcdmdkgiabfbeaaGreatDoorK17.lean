/-
  The document's store, its memory forgotten; how it changes.
-/
import Derived.Test.YtcdmdkgiabfbeaaGreatDoorK10
import Derived.Test.YtcdmdkgiabfbeaaGreatDoorK16
namespace Go.Proofs.YtcdmdkgiabfbeaaGreatDoor
open Go.RowKit

def roAbs (F : List RF) (o : RO) : Option H3 := if o.file = 0 then none else (F[o.file]?).map fun f => (f.name, o.mode, o.pos)
def getR (F : List RF) (s : ByteArray) : Option RF := F.find? fun f => decide (f.name = s ∧ s ≠ ⟨#[]⟩)
def neB (f : RF) : Bool := decide (f.name ≠ ⟨#[]⟩)
def RG.abs (r : RG) : A := { look := fun s => (getR r.F s).map (·.bs), count := (r.F.filter neB).length, hnd := fun i => (r.O[i + 1]?).bind (roAbs r.F), fails := r.X, n := r.n }
def RG.now (r : RG) : Fail3 := failAt r.X (r.n + 1)
def RG.tick (r : RG) : RG := { r with n := r.n + 1, go := r.now }
theorem RG.abs_tick (r : RG) : r.tick.abs = r.abs.tick := rfl
theorem RG.abs_now (r : RG) : r.abs.now = r.now := rfl

structure RR (m : Mem) (rb : Nat) (r : RG) : Prop where
  rep : RRep m rb r
  zero : ∀ o, r.O[0]? = some o → o.file = 0
theorem RR.le {m m' : Mem} {rb : Nat} {r : RG} (h : RR m rb r) (l : m.le m') : RR m' rb r := ⟨h.rep.le l, h.zero⟩
theorem RR.tick {m : Mem} {rb : Nat} {r : RG} (h : RR m rb r) : RR (m.set rb (rstoreObj r.tick)) rb r.tick := ⟨h.rep.restore r.xv r.X (r.n + 1) r.now h.rep.fails h.rep.xlen (Nat.le_succ _), h.zero⟩

/-! ### names -/
def Dist (F : List RF) : Prop := ∀ (i j : Nat) (f d : RF), F[i]? = some f → F[j]? = some d → f.name ≠ ⟨#[]⟩ → f.name = d.name → i = j
theorem dist_iff (F : List RF) : ((F.filter fun f => decide (f.name ≠ ⟨#[]⟩)).Pairwise fun f d => f.name ≠ d.name) ↔ Dist F := by
  rw [List.pairwise_filter, List.pairwise_iff_getElem]
  constructor
  · intro h i j f d hi hj hn he
    obtain ⟨hil, rfl⟩ := List.getElem?_eq_some_iff.1 hi
    obtain ⟨hjl, rfl⟩ := List.getElem?_eq_some_iff.1 hj
    rcases Nat.lt_trichotomy i j with c | c | c
    · exact absurd he (h i j hil hjl c (decide_eq_true hn) (decide_eq_true (he ▸ hn)))
    · exact c
    · exact absurd he.symm (h j i hjl hil c (decide_eq_true (he ▸ hn)) (decide_eq_true hn))
  · intro h i j hi hj c h1 _ he
    have := h i j _ _ (List.getElem?_eq_getElem hi) (List.getElem?_eq_getElem hj) (of_decide_eq_true h1) he
    omega
theorem RRep.dist {m : Mem} {rb : Nat} {r : RG} (h : RRep m rb r) : Dist r.F := (dist_iff _).1 h.names

theorem getR_iff {F : List RF} (hd : Dist F) {t : ByteArray} {f : RF} : getR F t = some f ↔ t ≠ ⟨#[]⟩ ∧ f.name = t ∧ ∃ i : Nat, F[i]? = some f := by
  unfold getR
  constructor
  · intro h
    have h1 : f.name = t ∧ t ≠ ⟨#[]⟩ := by simpa using List.find?_some h
    obtain ⟨i, hi, rfl⟩ := List.getElem_of_mem (List.mem_of_find?_eq_some h)
    exact ⟨h1.2, h1.1, i, List.getElem?_eq_getElem hi⟩
  · rintro ⟨h1, h2, i, hi⟩
    cases hf : F.find? fun f => decide (f.name = t ∧ t ≠ ⟨#[]⟩) with
    | none =>
      have h3 : f.name = t → t = ⟨#[]⟩ := by simpa using List.find?_eq_none.1 hf f (List.mem_of_getElem? hi)
      exact absurd (h3 h2) h1
    | some d =>
      have h3 : d.name = t ∧ t ≠ ⟨#[]⟩ := by simpa using List.find?_some hf
      obtain ⟨j, hj, rfl⟩ := List.getElem_of_mem (List.mem_of_find?_eq_some hf)
      have := hd i j f _ hi (List.getElem?_eq_getElem hj) (by rw [h2]; exact h1) (by rw [h2, h3.1])
      subst this
      rw [List.getElem?_eq_getElem hj] at hi
      exact hi
theorem getR_none {F : List RF} (hd : Dist F) {t : ByteArray} (h : ∀ (f : RF) (i : Nat), F[i]? = some f → t ≠ ⟨#[]⟩ → f.name ≠ t) : getR F t = none := by
  cases hf : getR F t with
  | none => rfl
  | some f =>
    obtain ⟨h1, h2, i, hi⟩ := (getR_iff hd).1 hf
    exact absurd h2 (h f i hi h1)
theorem RRep.find {m : Mem} {rb : Nat} {r : RG} (h : RRep m rb r) {s : ByteArray} {n : Nat} (hf : FindR r.F s n) : (n = 0 ∧ getR r.F s = none) ∨ (1 ≤ n ∧ s ≠ ⟨#[]⟩ ∧ ∃ f, r.F[n]? = some f ∧ f.name = s ∧ getR r.F s = some f) := by
  rcases hf with ⟨h1, h2⟩ | ⟨h1, h2, f, h3, h4⟩
  · refine .inl ⟨h1, getR_none h.dist fun f i hi hs hn => ?_⟩
    by_cases h0 : i = 0
    · obtain ⟨d, F', hF, hd⟩ := h.head
      subst h0
      rw [hF] at hi
      simp only [List.getElem?_cons_zero, Option.some.injEq] at hi
      subst hi
      exact hs (by rw [← hn, hd])
    · exact h2 i f (by omega) hi ⟨hn, hs⟩
  · exact .inr ⟨h1, h2, f, h3, h4, (getR_iff h.dist).2 ⟨h2, h4, n, h3⟩⟩

theorem getR_set {F : List RF} {k : Nat} {f f' : RF} (hd : Dist F) (hd' : Dist (F.set k f')) (hk : F[k]? = some f) (t : ByteArray) :
    getR (F.set k f') t = if t ≠ ⟨#[]⟩ ∧ f'.name = t then some f' else if f.name = t then none else getR F t := by
  have hkl := (List.getElem?_eq_some_iff.1 hk).1
  have hself : (F.set k f')[k]? = some f' := by rw [List.getElem?_set_self hkl]
  by_cases h1 : t ≠ ⟨#[]⟩ ∧ f'.name = t
  · rw [if_pos h1]
    exact (getR_iff hd').2 ⟨h1.1, h1.2, k, hself⟩
  · rw [if_neg h1]
    have key : ∀ d i, (F.set k f')[i]? = some d → t ≠ ⟨#[]⟩ → d.name = t → i ≠ k ∧ F[i]? = some d := fun d i hi ht hn => by
      by_cases hik : i = k
      · subst hik
        rw [hself] at hi
        obtain rfl := Option.some.inj hi
        exact absurd ⟨ht, hn⟩ h1
      · exact ⟨hik, by rw [List.getElem?_set_ne (Ne.symm hik)] at hi; exact hi⟩
    by_cases h2 : f.name = t
    · rw [if_pos h2]
      refine getR_none hd' fun d i hi ht hn => ?_
      obtain ⟨h3, h4⟩ := key d i hi ht hn
      exact h3 (hd i k d f h4 hk (by rw [hn]; exact ht) (by rw [hn, h2]))
    · rw [if_neg h2]
      cases hg : getR F t with
      | none =>
        refine getR_none hd' fun d i hi ht hn => ?_
        obtain ⟨h3, h4⟩ := key d i hi ht hn
        rw [(getR_iff hd).2 ⟨ht, hn, i, h4⟩] at hg
        cases hg
      | some d =>
        obtain ⟨ht, hn, i, hi⟩ := (getR_iff hd).1 hg
        refine (getR_iff hd').2 ⟨ht, hn, i, ?_⟩
        rw [List.getElem?_set_ne]
        · exact hi
        · rintro rfl
          rw [hk] at hi
          obtain rfl := Option.some.inj hi
          exact h2 hn

theorem dist_set {F : List RF} {k : Nat} {f' : RF} (hd : Dist F) (hn : ∀ (i : Nat) (d : RF), i ≠ k → F[i]? = some d → f'.name ≠ ⟨#[]⟩ → f'.name ≠ d.name) : Dist (F.set k f') := by
  intro i j a b hi hj ha hab
  have key : ∀ i a, (F.set k f')[i]? = some a → (i = k ∧ a = f') ∨ (i ≠ k ∧ F[i]? = some a) := fun i a hi => by
    by_cases h : i = k
    · subst h
      have hl := (List.getElem?_eq_some_iff.1 hi).1
      rw [List.getElem?_set_self (by simpa using hl)] at hi
      exact .inl ⟨rfl, (Option.some.inj hi).symm⟩
    · rw [List.getElem?_set_ne (Ne.symm h)] at hi
      exact .inr ⟨h, hi⟩
  rcases key i a hi with ⟨h1, h2⟩ | ⟨h1, h2⟩ <;> rcases key j b hj with ⟨h3, h4⟩ | ⟨h3, h4⟩
  · omega
  · subst h2; exact absurd hab (hn j b h3 h4 ha)
  · subst h4; exact absurd hab.symm (hn i a h1 h2 (hab ▸ ha))
  · exact hd i j a b h2 h4 ha hab

/-! ### the store, changed -/
/-- A file in the place of another. -/
theorem RRep.put {m m2 : Mem} {rb : Nat} {r : RG} (h : RRep m rb r) {k : Nat} {f f' : RF} (hk : r.F[k]? = some f) (hk0 : k ≠ 0)
    (keep : ∀ b o, RFP rb r b → r.fv.ownBlock ≠ some b → f.bv.ownBlock ≠ some b → m b = some o → m2 b = some o)
    (row : Row m2 r.fv 100 2 r.F.length ((r.F.set k f').flatMap rfCells)) (hb : Row m2 f'.bv 5 1 f'.bs.length (f'.bs.map byteV))
    (hsep : ∀ (j : Nat) (d : RF), j ≠ k → r.F[j]? = some d → ∀ b, d.bv.ownBlock = some b → f'.bv.ownBlock ≠ some b) (hdist : Dist (r.F.set k f')) (hnamed : f'.name ≠ ⟨#[]⟩ → isNameB f'.name = true) (hbs : f'.bs.length ≤ 262144)
    (hfile : f'.name = ⟨#[]⟩ → ∀ o ∈ r.O, o.file ≠ k) : RRep m2 rb { r with F := r.F.set k f' } := by
  have hkl := (List.getElem?_eq_some_iff.1 hk).1
  have kt : ∀ {v : Value} {e : TypeId} {q n : Nat} {xs : List Value}, Row m v e q n xs → (∀ b, v.ownBlock = some b → RFP rb r b) → e ≠ 100 → (∀ b, v.ownBlock = some b → f.bv.ownBlock ≠ some b) → Row m2 v e q n xs := fun hr hp he hs =>
    hr.keep fun b o hb hm => by
      obtain ⟨cur, fz, hc⟩ := hr.ty hb
      exact keep b o (hp b hb) (h.files.notOwn (e' := _) hc he) (hs b hb) hm
  have kb : ∀ {v : Value} {e : TypeId} {q n : Nat} {xs : List Value}, Row m v e q n xs → e ≠ 5 → ∀ b, v.ownBlock = some b → f.bv.ownBlock ≠ some b := fun hr he b hb => by
    obtain ⟨cur, fz, hc⟩ := hr.ty hb
    exact (h.bytes f (List.mem_of_getElem? hk)).notOwn (e' := _) hc he
  have split : ∀ d j, (r.F.set k f')[j]? = some d → (j = k ∧ d = f') ∨ (j ≠ k ∧ r.F[j]? = some d) := fun d j hd => by
    by_cases hj : j = k
    · subst hj
      rw [List.getElem?_set_self hkl] at hd
      exact .inl ⟨rfl, (Option.some.inj hd).symm⟩
    · rw [List.getElem?_set_ne (Ne.symm hj)] at hd
      exact .inr ⟨hj, hd⟩
  have sepI : ∀ (i j : Nat) (d d' : RF), i ≠ j → r.F[i]? = some d → r.F[j]? = some d' → ∀ b, d.bv.ownBlock = some b → d'.bv.ownBlock ≠ some b := fun i j d d' hij hi hj b hb hb' => by
    obtain ⟨hil, rfl⟩ := List.getElem?_eq_some_iff.1 hi
    obtain ⟨hjl, rfl⟩ := List.getElem?_eq_some_iff.1 hj
    have hp := List.pairwise_iff_getElem.1 h.sep
    rcases Nat.lt_or_gt_of_ne hij with c | c
    · exact hp i j hil hjl c b hb hb'
    · exact hp j i hjl hil c b hb' hb
  exact { h with
    store := keep rb _ (.inl rfl) (h.files.notOwn (e' := 58) h.store (by decide)) ((h.bytes f (List.mem_of_getElem? hk)).notOwn (e' := 58) h.store (by decide)) h.store
    files := by
      show Row m2 r.fv _ 2 (r.F.set k f').length _
      rw [List.length_set]; exact row
    bytes := fun d hd => by
      obtain ⟨j, hj⟩ := List.getElem?_of_mem hd
      rcases split d j hj with ⟨_, rfl⟩ | ⟨h1, h2⟩
      · exact hb
      · exact kt (h.bytes d (List.mem_of_getElem? h2)) (fun b hb => .inr (.inr (.inr (.inr ⟨d, List.mem_of_getElem? h2, hb⟩)))) (by decide) (sepI j k d f h1 h2 hk)
    sep := by
      show (r.F.set k f').Pairwise _
      rw [List.pairwise_iff_getElem]
      intro i j hi hj hij b h1 h2
      rcases split _ i (List.getElem?_eq_getElem hi) with ⟨e1, e2⟩ | ⟨e1, e2⟩ <;> rcases split _ j (List.getElem?_eq_getElem hj) with ⟨e3, e4⟩ | ⟨e3, e4⟩
      · omega
      · rw [e2] at h1; exact hsep j _ e3 e4 b h2 h1
      · rw [e4] at h2; exact hsep i _ e1 e2 b h1 h2
      · exact sepI i j _ _ (by omega) e2 e4 b h1 h2
    opens := kt h.opens (fun b hb => .inr (.inr (.inl hb))) (by decide) (kb h.opens (by decide))
    fails := kt h.fails (fun b hb => .inr (.inr (.inr (.inl hb)))) (by decide) (kb h.fails (by decide))
    head := by
      obtain ⟨d, F', h1, h2⟩ := h.head
      obtain ⟨j, rfl⟩ : ∃ j, k = j + 1 := ⟨k - 1, by omega⟩
      exact ⟨d, F'.set j f', by show r.F.set (j + 1) f' = _; rw [h1]; rfl, h2⟩
    flen := by show (r.F.set k f').length ≤ _; rw [List.length_set]; exact h.flen
    names := (dist_iff _).2 hdist
    named := fun d hd hn => by
      obtain ⟨j, hj⟩ := List.getElem?_of_mem hd
      rcases split d j hj with ⟨_, rfl⟩ | ⟨h1, h2⟩
      · exact hnamed hn
      · exact h.named d (List.mem_of_getElem? h2) hn
    bsz := fun d hd => by
      obtain ⟨j, hj⟩ := List.getElem?_of_mem hd
      rcases split d j hj with ⟨_, rfl⟩ | ⟨h1, h2⟩
      · exact hbs
      · exact h.bsz d (List.mem_of_getElem? h2)
    ofile := fun o ho => by
      rcases h.ofile o ho with h1 | ⟨d, h1, h2⟩
      · exact .inl h1
      · by_cases hok : o.file = k
        · by_cases hn : f'.name = ⟨#[]⟩
          · exact absurd hok (hfile hn o ho)
          · exact .inr ⟨f', by show (r.F.set k f')[o.file]? = _; rw [hok, List.getElem?_set_self hkl], hn⟩
        · exact .inr ⟨d, by show (r.F.set k f')[o.file]? = _; rw [List.getElem?_set_ne (Ne.symm hok)]; exact h1, h2⟩ }

theorem RFP_put {rb : Nat} {r : RG} {k : Nat} {f' : RF} {b : Nat} (h : RFP rb { r with F := r.F.set k f' } b) : RFP rb r b ∨ f'.bv.ownBlock = some b := by
  rcases h with h | h | h | h | ⟨d, hd, h⟩
  · exact .inl (.inl h)
  · exact .inl (.inr (.inl h))
  · exact .inl (.inr (.inr (.inl h)))
  · exact .inl (.inr (.inr (.inr (.inl h))))
  · rcases List.mem_or_eq_of_mem_set hd with hd | rfl
    · exact .inl (.inr (.inr (.inr (.inr ⟨d, hd, h⟩))))
    · exact .inr h

/-- An open file in the place of another. -/
theorem RRep.putO {m m2 : Mem} {rb : Nat} {r : RG} (h : RRep m rb r) {k : Nat} {o' : RO}
    (keep : ∀ b o, RFP rb r b → r.ov.ownBlock ≠ some b → m b = some o → m2 b = some o)
    (row : Row m2 r.ov 115 3 33 ((r.O.set k o').flatMap roCells)) (ho : o'.file = 0 ∨ ∃ f, r.F[o'.file]? = some f ∧ f.name ≠ ⟨#[]⟩) (hp : o'.pos ≤ 262144) : RRep m2 rb { r with O := r.O.set k o' } := by
  have kt : ∀ {v : Value} {e : TypeId} {q n : Nat} {xs : List Value}, Row m v e q n xs → (∀ b, v.ownBlock = some b → RFP rb r b) → e ≠ 115 → Row m2 v e q n xs := fun hr hp he =>
    hr.keep fun b o hb hm => by
      obtain ⟨cur, fz, hc⟩ := hr.ty hb
      exact keep b o (hp b hb) (h.opens.notOwn (e' := _) hc he) hm
  exact { h with
    store := keep rb _ (.inl rfl) (h.opens.notOwn (e' := 58) h.store (by decide)) h.store
    files := kt h.files (fun b hb => .inr (.inl hb)) (by decide)
    bytes := fun f hf => kt (h.bytes f hf) (fun b hb => .inr (.inr (.inr (.inr ⟨f, hf, hb⟩)))) (by decide)
    opens := row
    olen := by show (r.O.set k o').length = 33; rw [List.length_set]; exact h.olen
    fails := kt h.fails (fun b hb => .inr (.inr (.inr (.inl hb)))) (by decide)
    ofile := fun o hmem => by
      rcases List.mem_or_eq_of_mem_set hmem with hmem | rfl
      · exact h.ofile o hmem
      · exact ho
    opos := fun o hmem => by
      rcases List.mem_or_eq_of_mem_set hmem with hmem | rfl
      · exact h.opos o hmem
      · exact hp }
theorem RFP_putO {rb : Nat} {r : RG} {k : Nat} {o' : RO} {b : Nat} (h : RFP rb { r with O := r.O.set k o' } b) : RFP rb r b := h

/-! ### what is forgotten, changed -/
theorem abs_putO {r : RG} {k : Nat} (o' : RO) (hk : k + 1 < r.O.length) : ({ r with O := r.O.set (k + 1) o' } : RG).abs = r.abs.setH k (roAbs r.F o') := by
  simp only [RG.abs, A.setH, A.mk.injEq, true_and, and_true]
  funext i
  rw [List.getElem?_set]
  by_cases e : i = k
  · subst e; rw [if_pos rfl, if_pos hk, if_pos rfl]; rfl
  · rw [if_neg (by omega), if_neg e]

theorem roAbs_set {F : List RF} {k : Nat} {f f' : RF} (hk : F[k]? = some f) {o : RO} (h : o.file = k → f'.name = f.name) : roAbs (F.set k f') o = roAbs F o := by
  unfold roAbs
  by_cases h0 : o.file = 0
  · rw [if_pos h0, if_pos h0]
  · rw [if_neg h0, if_neg h0]
    by_cases hok : o.file = k
    · have hkl := (List.getElem?_eq_some_iff.1 hk).1
      rw [hok, List.getElem?_set_self hkl, hk, Option.map_some, Option.map_some, h hok]
    · rw [List.getElem?_set_ne (Ne.symm hok)]

theorem cnt_set {F : List RF} {k : Nat} {f f' : RF} (hk : F[k]? = some f) : ((F.set k f').filter neB).length = (F.filter neB).length - (if neB f then 1 else 0) + (if neB f' then 1 else 0) := by
  obtain ⟨hkl, rfl⟩ := List.getElem?_eq_some_iff.1 hk
  rw [← List.countP_eq_length_filter, ← List.countP_eq_length_filter, List.countP_set hkl]
theorem cnt_pos {F : List RF} {k : Nat} {f : RF} (hk : F[k]? = some f) (hf : f.name ≠ ⟨#[]⟩) : 1 ≤ (F.filter neB).length :=
  List.length_pos_of_mem (List.mem_filter.2 ⟨List.mem_of_getElem? hk, decide_eq_true hf⟩)

/-- Other bytes. -/
theorem abs_putB {r : RG} {k : Nat} {f f' : RF} (hd : Dist r.F) (hk : r.F[k]? = some f) (hn : f'.name = f.name) (hf : f.name ≠ ⟨#[]⟩) : ({ r with F := r.F.set k f' } : RG).abs = r.abs.setF f.name f'.bs := by
  have hd' : Dist (r.F.set k f') := dist_set hd fun i d hi hF _ he => hi (hd i k d f hF hk (by rw [← he, hn]; exact hf) (by rw [← he, hn]))
  simp only [RG.abs, A.setF, A.mk.injEq, true_and, and_true]
  refine ⟨?_, ?_, ?_⟩
  · funext t
    rw [getR_set hd hd' hk, hn]
    by_cases h : t = f.name
    · subst h; rw [if_pos ⟨hf, rfl⟩, if_pos rfl]; rfl
    · rw [if_neg (fun c => h c.2.symm), if_neg (Ne.symm h), if_neg h]
  · rw [cnt_set hk]
    have := cnt_pos hk hf
    rw [show neB f = true from decide_eq_true hf, show neB f' = true from decide_eq_true (by rw [hn]; exact hf), if_pos rfl]; omega
  · funext i
    cases r.O[i + 1]? with
    | none => rfl
    | some o => exact roAbs_set hk fun _ => hn

/-- A file less. -/
theorem abs_putD {r : RG} {k : Nat} {f f' : RF} (hd : Dist r.F) (hk : r.F[k]? = some f) (hn : f'.name = ⟨#[]⟩) (hf : f.name ≠ ⟨#[]⟩) (hu : ∀ o ∈ r.O, o.file ≠ k) : ({ r with F := r.F.set k f' } : RG).abs = r.abs.drop f.name := by
  have hd' : Dist (r.F.set k f') := dist_set hd fun i d hi hF h => absurd hn h
  simp only [RG.abs, A.drop, A.mk.injEq, true_and, and_true]
  refine ⟨?_, ?_, ?_⟩
  · funext t
    rw [getR_set hd hd' hk, hn, if_neg (fun c => c.1 c.2.symm)]
    by_cases h : t = f.name
    · subst h; rw [if_pos rfl, if_pos rfl]; rfl
    · rw [if_neg (Ne.symm h), if_neg h]
  · rw [cnt_set hk]
    rw [show neB f = true from decide_eq_true hf, show neB f' = false from decide_eq_false (fun c => c hn)]; simp
  · funext i
    cases ho : r.O[i + 1]? with
    | none => rfl
    | some o => exact roAbs_set hk fun h => absurd h (hu o (List.mem_of_getElem? ho))

/-- Another name. -/
theorem abs_putN {r : RG} {k : Nat} {f f' : RF} (hd : Dist r.F) (hk : r.F[k]? = some f) (hf : f.name ≠ ⟨#[]⟩) (ht : f'.name ≠ ⟨#[]⟩) (hbs : f'.bs = f.bs) (hd' : Dist (r.F.set k f')) (hu : ∀ o ∈ r.O, o.file ≠ k) : ({ r with F := r.F.set k f' } : RG).abs = r.abs.ren f.name f'.name := by
  simp only [RG.abs, A.ren, A.mk.injEq, true_and, and_true]
  refine ⟨?_, ?_, ?_⟩
  · funext t
    rw [getR_set hd hd' hk]
    by_cases h : t = f'.name
    · subst h; rw [if_pos ⟨ht, rfl⟩, if_pos rfl, (getR_iff hd).2 ⟨hf, rfl, k, hk⟩]
      simp [hbs]
    · rw [if_neg (fun c => h c.2.symm), if_neg h]
      by_cases h2 : t = f.name
      · rw [if_pos h2.symm, if_pos h2]; rfl
      · rw [if_neg (Ne.symm h2), if_neg h2]
  · rw [cnt_set hk]
    have := cnt_pos hk hf
    rw [show neB f = true from decide_eq_true hf, show neB f' = true from decide_eq_true ht, if_pos rfl]; omega
  · funext i
    cases ho : r.O[i + 1]? with
    | none => rfl
    | some o => exact roAbs_set hk fun h => absurd h (hu o (List.mem_of_getElem? ho))

/-- A file more. -/
theorem abs_push {m : Mem} {rb : Nat} {r : RG} (h : RRep m rb r) {f : RF} {v' : Value} (hg : getR r.F f.name = none) (hf : f.name ≠ ⟨#[]⟩) (hb : f.bs = []) : ({ r with fv := v', F := r.F ++ [f] } : RG).abs = r.abs.make f.name := by
  have hl : (r.abs.look f.name).isNone = true := by
    show ((getR r.F f.name).map (·.bs)).isNone = true
    rw [hg]; rfl
  unfold A.make
  rw [hl, if_pos rfl]
  simp only [RG.abs, A.mk.injEq, true_and, and_true]
  refine ⟨?_, ?_, ?_⟩
  · funext t
    unfold getR
    rw [List.find?_append]
    by_cases ht : t = f.name
    · subst ht
      unfold getR at hg
      rw [hg, List.find?_cons_of_pos (by simpa using hf), if_pos rfl]
      simp [hb]
    · rw [List.find?_cons_of_neg (by simpa using fun h => absurd h.symm ht), List.find?_nil, Option.or_none, if_neg ht]
  · rw [List.filter_append, List.length_append, List.filter_cons_of_pos (show neB f = true from decide_eq_true hf)]; rfl
  · funext i
    cases ho : r.O[i + 1]? with
    | none => rfl
    | some o =>
      show roAbs (r.F ++ [f]) o = roAbs r.F o
      unfold roAbs
      rcases h.ofile o (List.mem_of_getElem? ho) with h1 | ⟨d, h1, h2⟩
      · rw [if_pos h1, if_pos h1]
      · rw [List.getElem?_append_left (List.getElem?_eq_some_iff.1 h1).1]

/-- What is open. -/
theorem RR.got {m : Mem} {rb : Nat} {r : RG} (h : RR m rb r) (id : Nat) (h1 : 1 ≤ id) (h2 : id ≤ 32) : ∃ o, r.O[id]? = some o ∧ r.abs.got id = roAbs r.F o ∧ ((o.file = 0 ∧ r.abs.got id = none) ∨ (o.file ≠ 0 ∧ ∃ f, r.F[o.file]? = some f ∧ f.name ≠ ⟨#[]⟩ ∧ r.abs.got id = some (f.name, o.mode, o.pos))) := by
  have hl := h.rep.olen
  have ho : r.O[id]? = some r.O[id] := List.getElem?_eq_getElem (by omega)
  have hg : r.abs.got id = roAbs r.F r.O[id] := by
    unfold A.got
    rw [if_pos ⟨by omega, by omega⟩]
    show (r.O[((id : Int) - 1).toNat + 1]?).bind (roAbs r.F) = _
    rw [show ((id : Int) - 1).toNat + 1 = id from by omega, ho]; rfl
  refine ⟨_, ho, hg, ?_⟩
  rw [hg]
  unfold roAbs
  rcases h.rep.ofile _ (List.mem_of_getElem? ho) with h3 | ⟨f, h3, h4⟩
  · exact .inl ⟨h3, by rw [if_pos h3]⟩
  · by_cases h0 : r.O[id].file = 0
    · exact .inl ⟨h0, by rw [if_pos h0]⟩
    · exact .inr ⟨h0, f, h3, h4, by rw [if_neg h0, h3]; rfl⟩

theorem RR.used {m : Mem} {rb : Nat} {r : RG} (h : RR m rb r) {k : Nat} {f : RF} (hk : r.F[k]? = some f) (hk0 : k ≠ 0) (hf : f.name ≠ ⟨#[]⟩) : r.abs.used f.name = true ↔ ∃ i o, 1 ≤ i ∧ i ≤ 32 ∧ r.O[i]? = some o ∧ o.file = k := by
  have hl := h.rep.olen
  unfold A.used
  rw [List.any_eq_true]
  constructor
  · rintro ⟨i, hi, hx⟩
    have hi' := List.mem_range.1 hi
    have ho : r.O[i + 1]? = some r.O[i + 1] := List.getElem?_eq_getElem (by omega)
    have he : r.abs.hnd i = roAbs r.F r.O[i + 1] := by show (r.O[i + 1]?).bind _ = _; rw [ho]; rfl
    rw [he] at hx
    refine ⟨i + 1, _, by omega, by omega, ho, ?_⟩
    unfold roAbs at hx
    by_cases h0 : r.O[i + 1].file = 0
    · rw [if_pos h0] at hx; cases hx
    · rw [if_neg h0] at hx
      cases hd : r.F[r.O[i + 1].file]? with
      | none => rw [hd] at hx; cases hx
      | some d =>
        rw [hd] at hx
        have hn : d.name = f.name := of_decide_eq_true hx
        exact h.rep.dist _ _ d f hd hk (by rw [hn]; exact hf) hn
  · rintro ⟨i, o, h1, h2, ho, hfile⟩
    refine ⟨i - 1, List.mem_range.2 (by omega), ?_⟩
    have he : r.abs.hnd (i - 1) = roAbs r.F o := by show (r.O[i - 1 + 1]?).bind _ = _; rw [show i - 1 + 1 = i from by omega, ho]; rfl
    rw [he]
    unfold roAbs
    rw [if_neg (by omega), hfile, hk]
    exact decide_eq_true rfl
theorem RR.notUsed {m : Mem} {rb : Nat} {r : RG} (h : RR m rb r) {k : Nat} {f : RF} (hk : r.F[k]? = some f) (hk0 : k ≠ 0) (hf : f.name ≠ ⟨#[]⟩) (hu : r.abs.used f.name = false) : ∀ o ∈ r.O, o.file ≠ k := fun o ho he => by
  obtain ⟨i, hi⟩ := List.getElem?_of_mem ho
  have hl := (List.getElem?_eq_some_iff.1 hi).1
  rw [h.rep.olen] at hl
  by_cases h0 : i = 0
  · subst h0; exact hk0 (by rw [← he, h.zero o hi])
  · rw [(h.used hk hk0 hf).2 ⟨i, o, by omega, by omega, hi, he⟩] at hu; cases hu

/-! ### cells written in a row -/
theorem Row.write {m : Mem} {v : Value} {e : TypeId} {k n : Nat} {xs : List Value} (h : Row m v e k n xs) {g : Nat} (hv : v.ownBlock = some g) {w : World} (hm : Has w m) :
    g < w.heap.size ∧ (∀ i, i < n * k → w.cell? ⟨g, i, none⟩ = xs[i]?) ∧ (∀ i, i < n * k → w.frozen? ⟨g, i, none⟩ = false) ∧
    ∀ (wx : World), Has wx m → ∀ (j : Nat) (vs : List Value), j + vs.length ≤ n * k → ∃ o, Has (wx.setCells g j vs) (m.set g o) ∧ Row (m.set g o) v e k n (xs.take j ++ vs ++ xs.drop (j + vs.length)) := by
  obtain ⟨cap, cur, fz, hv, hg, hth, hnc, hcm, hcs, htk⟩ := h.own hv
  have hnk : n * k ≤ cap * k := Nat.mul_le_mul_right k hnc
  have hci : ∀ i, i < n * k → cur[i]? = xs[i]? := fun i hi => by
    rw [← htk, List.getElem?_take, if_pos hi]; simp
  refine ⟨hm.lt hg, fun i hi => by rw [hm.cell hg, hci _ hi], fun i hi => by simp only [World.frozen?, hm _ _ hg]; exact hth _ (by omega), fun wx hx j vs hj => ⟨_, Has.stores vs cur j _ _ hx hg, ?_⟩⟩
  have hfit : j + vs.length ≤ cur.size := by omega
  have hxl := h.1
  refine ⟨by simp only [List.length_append, List.length_take, List.length_drop]; omega, .inr ⟨g, cap, _, fz, hv, Mem.set_same _ _ _, hth.size (splice_size _ _ _), hnc, hcm, by rw [splice_size]; exact hcs, ?_⟩⟩
  apply List.ext_getElem?
  intro i
  rw [List.getElem?_take]
  have hs : (splice cur j vs).toList[i]? = (splice cur j vs)[i]? := by simp
  by_cases hi : i < n * k
  · rw [if_pos hi, hs, splice_get _ _ _ _ hfit]
    by_cases h1 : j ≤ i ∧ i < j + vs.length
    · rw [if_pos h1, List.append_assoc, List.getElem?_append_right (by simp; omega), List.getElem?_append_left (by simp; omega)]
      congr 1; simp; omega
    · rw [if_neg h1, hci _ hi]
      rcases Nat.lt_or_ge i j with h2 | h2
      · rw [List.append_assoc, List.getElem?_append_left (by simp; omega), List.getElem?_take, if_pos h2]
      · rw [List.getElem?_append_right (by simp; omega), List.getElem?_drop]
        congr 1; simp; omega
  · rw [if_neg hi, List.getElem?_eq_none]
    simp only [List.length_append, List.length_take, List.length_drop]; omega

theorem flat_len {α : Type} (c : α → List Value) (q : Nat) (hc : ∀ x, (c x).length = q) : ∀ F : List α, (F.flatMap c).length = F.length * q
  | [] => by simp
  | f :: F => by rw [List.flatMap_cons, List.length_append, hc, flat_len c q hc F, List.length_cons, Nat.add_mul]; omega
theorem flat_put {α : Type} (c : α → List Value) (q : Nat) (hc : ∀ x, (c x).length = q) (F : List α) (k : Nat) (f f' : α) (hk : F[k]? = some f) (a : Nat) (vs : List Value) (hq : a + vs.length ≤ q)
    (hf : c f' = (c f).take a ++ vs ++ (c f).drop (a + vs.length)) : (F.flatMap c).take (k * q + a) ++ vs ++ (F.flatMap c).drop (k * q + a + vs.length) = (F.set k f').flatMap c := by
  obtain ⟨hkl, rfl⟩ := List.getElem?_eq_some_iff.1 hk
  have hF : F = F.take k ++ F[k] :: F.drop (k + 1) := by rw [List.getElem_cons_drop hkl, List.take_append_drop]
  have hset : F.set k f' = F.take k ++ f' :: F.drop (k + 1) := by rw [List.set_eq_take_append_cons_drop, if_pos hkl]
  have hPA : ((F.take k).flatMap c).length = k * q := by rw [flat_len c q hc, List.length_take, Nat.min_eq_left (by omega)]
  have hX : F.flatMap c = (F.take k).flatMap c ++ (c F[k] ++ (F.drop (k + 1)).flatMap c) := by
    rw [← List.flatMap_cons, ← List.flatMap_append, ← hF]
  rw [hset, List.flatMap_append, List.flatMap_cons, hf, hX, ← hPA, List.take_length_add_append, Nat.add_assoc, List.drop_length_add_append, List.take_append_of_le_length (by rw [hc]; omega), List.drop_append_of_le_length (by rw [hc]; omega)]
  simp only [List.append_assoc]
theorem ro_get (O : List RO) {k : Nat} {o : RO} (hk : O[k]? = some o) : (O.flatMap roCells)[k * 3]? = some (.int .i64 o.file) ∧ (O.flatMap roCells)[k * 3 + 1]? = some (.int .i64 o.mode) ∧ (O.flatMap roCells)[k * 3 + 2]? = some (.int .i64 o.pos) := by
  obtain ⟨hkl, rfl⟩ := List.getElem?_eq_some_iff.1 hk
  have hF : O = O.take k ++ O[k] :: O.drop (k + 1) := by rw [List.getElem_cons_drop hkl, List.take_append_drop]
  have hPA : ((O.take k).flatMap roCells).length = k * 3 := by rw [flat_len roCells 3 (fun _ => rfl), List.length_take, Nat.min_eq_left (by omega)]
  have hX : O.flatMap roCells = (O.take k).flatMap roCells ++ (roCells O[k] ++ (O.drop (k + 1)).flatMap roCells) := by
    rw [← List.flatMap_cons, ← List.flatMap_append, ← hF]
  rw [hX]
  refine ⟨?_, ?_, ?_⟩
  · rw [List.getElem?_append_right (by omega), hPA, Nat.sub_self]; rfl
  · rw [List.getElem?_append_right (by omega), hPA, Nat.add_sub_cancel_left]; rfl
  · rw [List.getElem?_append_right (by omega), hPA, Nat.add_sub_cancel_left]; rfl
end Go.Proofs.YtcdmdkgiabfbeaaGreatDoor

/-
  Stores that are looked up alike list the same files.
-/
namespace Go.Proofs.YtcdmdkgiabfbeaaGreatDoor
open Go.RowKit

theorem nodup_of_fst {α β γ : Type} {l : List α} {f : α → β × γ} (h : (l.map fun a => (f a).1).Nodup) : (l.map f).Nodup := by
  have h2 : ((l.map f).map Prod.fst).Nodup := by rw [List.map_map]; exact h
  have key : ∀ (k : List (β × γ)), (k.map Prod.fst).Nodup → k.Nodup := fun k => by
    induction k with
    | nil => intro _; exact List.nodup_nil
    | cons a k ih =>
      intro hk
      simp only [List.map_cons, List.nodup_cons] at hk
      rw [List.nodup_cons]
      exact ⟨fun ha => hk.1 (List.mem_map_of_mem ha), ih hk.2⟩
  exact key _ h2

theorem bytes_eq {bs : List UInt8} {b : ByteArray} : (⟨bs.toArray⟩ : ByteArray) = b ↔ bs = b.data.toList := by
  constructor
  · rintro rfl; simp
  · rintro rfl; cases b; simp

theorem mem_pairs {L : List Ent} (hn : (L.map (·.name)).Nodup) (a : File2) : a ∈ (L.map fun e => (e.name, (⟨e.bs.toArray⟩ : ByteArray))) ↔ (getE L a.1).map (·.bs) = some a.2.data.toList := by
  constructor
  · intro h
    obtain ⟨e, he, rfl⟩ := List.mem_map.1 h
    rw [getE_of hn he]; simp
  · intro h
    cases hg : getE L a.1 with
    | none => rw [hg] at h; cases h
    | some e =>
      rw [hg] at h
      have h2 : e.bs = a.2.data.toList := Option.some.inj h
      refine List.mem_map.2 ⟨e, getE_mem hg, ?_⟩
      rw [getE_name hg, bytes_eq.2 h2]

theorem mem_ents {F : List RF} (hd : Dist F) (a : File2) : a ∈ ents F ↔ (getR F a.1).map (·.bs) = some a.2.data.toList := by
  unfold ents
  constructor
  · intro h
    obtain ⟨f, hf, rfl⟩ := List.mem_map.1 h
    obtain ⟨h1, h2⟩ := List.mem_filter.1 hf
    obtain ⟨i, hi⟩ := List.getElem?_of_mem h1
    rw [(getR_iff hd).2 ⟨of_decide_eq_true h2, rfl, i, hi⟩]; simp
  · intro h
    cases hg : getR F a.1 with
    | none => rw [hg] at h; cases h
    | some f =>
      rw [hg] at h
      have h2 : f.bs = a.2.data.toList := Option.some.inj h
      obtain ⟨h3, h4, i, hi⟩ := (getR_iff hd).1 hg
      refine List.mem_map.2 ⟨f, List.mem_filter.2 ⟨List.mem_of_getElem? hi, decide_eq_true (by rw [h4]; exact h3)⟩, ?_⟩
      rw [h4, bytes_eq.2 h2]

theorem ents_nodup {F : List RF} (h : (F.filter fun f => decide (f.name ≠ ⟨#[]⟩)).Pairwise fun f d => f.name ≠ d.name) : (ents F).Nodup := by
  unfold ents
  refine nodup_of_fst ?_
  show ((F.filter _).map fun f => f.name).Nodup
  rw [List.nodup_iff_pairwise_ne, List.pairwise_map]
  exact h

theorem perm_of_look {m m' : Mem} {sb rb : Nat} {g : G} {r : RG} (h : SRep m sb g) (k : RRep m' rb r) (he : r.abs.look = g.abs.look) : (g.L.map fun e => (e.name, (⟨e.bs.toArray⟩ : ByteArray))).Perm (ents r.F) := by
  refine (List.perm_ext_iff_of_nodup (nodup_of_fst h.names) (ents_nodup k.names)).2 fun a => ?_
  rw [mem_pairs h.names, mem_ents k.dist]
  have h2 : (getR r.F a.1).map (·.bs) = (getE g.L a.1).map (·.bs) := congrFun he a.1
  rw [h2]

theorem files_same {m m' : Mem} {sb sb' : Nat} {g g' : G} (h : SRep m sb g) (k : SRep m' sb' g') (he : g'.abs.look = g.abs.look) : filesOf g'.L = filesOf g.L := by
  have hp : (g'.L.map fun e => (e.name, (⟨e.bs.toArray⟩ : ByteArray))).Perm (g.L.map fun e => (e.name, (⟨e.bs.toArray⟩ : ByteArray))) := by
    refine (List.perm_ext_iff_of_nodup (nodup_of_fst k.names) (nodup_of_fst h.names)).2 fun a => ?_
    rw [mem_pairs h.names, mem_pairs k.names]
    have h2 : (getE g'.L a.1).map (·.bs) = (getE g.L a.1).map (·.bs) := congrFun he a.1
    rw [h2]
  have hpp : (filesOf g'.L).Perm (filesOf g.L) := (filesOf_perm k.names).trans (hp.trans (filesOf_perm h.names).symm)
  refine List.Perm.eq_of_pairwise (le := leF) (fun a b ha hb h1 h2 => ?_) (filesOf_sorted g'.L) (filesOf_sorted g.L) hpp
  have hn : a.1 = b.1 := by
    have h3 : a.1.data.toList = b.1.data.toList := List.le_antisymm h1 h2
    exact toList_inj (by rw [ByteArray.toList_eq, ByteArray.toList_eq]; exact h3)
  have ha' := (mem_pairs h.names a).1 ((filesOf_perm h.names).mem_iff.1 (hpp.mem_iff.1 ha))
  have hb' := (mem_pairs h.names b).1 ((filesOf_perm h.names).mem_iff.1 hb)
  rw [hn, hb'] at ha'
  have h4 := Option.some.inj ha'
  cases a with | mk a1 a2 => cases b with | mk b1 b2 =>
  simp only at hn h4
  rw [hn, toList_inj (a := a2) (b := b2) (by rw [ByteArray.toList_eq, ByteArray.toList_eq]; exact h4.symm)]
end Go.Proofs.YtcdmdkgiabfbeaaGreatDoor

/-
  What a *files.Store is in memory, and the functions that only look at it: many, there, Create's and Open's and Rename's question.
-/
import Derived.Test.YtcdmdkgiabfbeaaDoorBegin
import Derived.Test.YtcdmdkgiabfbeaaDoorMaps
namespace Go.Proofs.YtcdmdkgiabfbeaaDoor
open Go.RowKit

/-- An open file: its block, its file's block and name, its mode, its position. -/
structure Hnd where
  ob : Nat
  fb : Nat
  name : ByteArray
  mode : Int
  pos : Nat

/-- A store: its map's block, the map's clock, its files, the slices of the fails and of the open files; the open files, the fails, the operations. -/
structure G where
  mb : Nat
  clock : Nat
  L : List Ent
  fv : Value
  ov : Value
  O : List (Option Hnd)
  fails : List Fail3
  n : Nat

def hndV : Option Hnd → Value
  | none => .pointer none
  | some h => .pointer (some ⟨h.ob, 0, none⟩)
def storeObj (g : G) : Obj := .cells #[.map (some g.mb), g.fv, g.ov, .int .i64 g.n] 57 (0, 0)
def fileObj (e : Ent) : Obj := .cells #[e.bv] 62 (0, 0)
def hndObj (h : Hnd) : Obj := .cells #[.pointer (some ⟨h.fb, 0, none⟩), .int .i64 h.mode, .int .i64 h.pos] 80 (0, 0)

structure SRep (m : Mem) (sb : Nat) (g : G) : Prop where
  store : m sb = some (storeObj g)
  map : m g.mb = some (mapObj g.L g.clock)
  file : ∀ e ∈ g.L, m e.fb = some (fileObj e)
  row : ∀ e ∈ g.L, Row m e.bv 5 1 e.bs.length (e.bs.map byteV)
  names : (g.L.map (·.name)).Nodup
  fbs : (g.L.map (·.fb)).Nodup
  sep : ∀ e ∈ g.L, ∀ d ∈ g.L, e.fb ≠ d.fb → ∀ b, e.bv.ownBlock = some b → d.bv.ownBlock ≠ some b
  bornN : (g.L.map (·.born)).Nodup
  bornC : ∀ e ∈ g.L, e.born < g.clock
  fails : Fails m g.fv g.fails
  opens : Row m g.ov 77 1 g.O.length (g.O.map hndV)
  hnd : ∀ h, some h ∈ g.O → m h.ob = some (hndObj h)
  hof : ∀ h, some h ∈ g.O → ∃ e ∈ g.L, e.fb = h.fb ∧ e.name = h.name
  obs : ∀ (i j : Nat) (h k : Hnd), g.O[i]? = some (some h) → g.O[j]? = some (some k) → h.ob = k.ob → i = j
  olen : g.O.length ≤ 32
  llen : g.L.length ≤ 100
  nm : ∀ e ∈ g.L, isNameB e.name = true
  bsz : ∀ e ∈ g.L, e.bs.length ≤ 262144
  pos : ∀ h, some h ∈ g.O → h.pos ≤ 262144
  fl : g.fails.length ≤ 1000

theorem SRep.le {m m' : Mem} {sb : Nat} {g : G} (h : SRep m sb g) (l : m.le m') : SRep m' sb g :=
  { h with
    store := l _ _ h.store
    map := l _ _ h.map
    file := fun e he => l _ _ (h.file e he)
    row := fun e he => (h.row e he).le l
    fails := Row.le h.fails l
    opens := h.opens.le l
    hnd := fun k hk => l _ _ (h.hnd k hk) }

/-- The store counts: what else it is stays. -/
theorem SRep.count {m : Mem} {sb : Nat} {g : G} (h : SRep m sb g) : SRep (m.set sb (storeObj { g with n := g.n + 1 })) sb { g with n := g.n + 1 } := by
  have ne : ∀ {b : Nat} {o : Obj}, m b = some o → o ≠ storeObj g → b ≠ sb := fun hb ho e => by subst e; rw [h.store] at hb; exact ho (Option.some.inj hb).symm
  have rne : ∀ {v : Value} {e : TypeId} {k n : Nat} {xs : List Value}, Row m v e k n xs → e ≠ 57 → v.ownBlock ≠ some sb := fun hr he hb => by
    obtain ⟨cap, cur, fz, _, hg, _⟩ := hr.own hb
    rw [h.store] at hg
    simp only [storeObj, Option.some.injEq, Obj.cells.injEq] at hg
    exact he hg.2.1.symm
  exact { h with
    store := Mem.set_same _ _ _
    map := by rw [Mem.set_ne _ _ (ne h.map (by simp [mapObj, storeObj]))]; exact h.map
    file := fun e he => by rw [Mem.set_ne _ _ (ne (h.file e he) (by simp [fileObj, storeObj]))]; exact h.file e he
    row := fun e he => (h.row e he).set_other _ (rne (h.row e he) (by decide))
    fails := Row.set_other h.fails _ (rne h.fails (by decide))
    opens := h.opens.set_other _ (rne h.opens (by decide))
    hnd := fun k hk => by rw [Mem.set_ne _ _ (ne (h.hnd k hk) (by simp [hndObj, storeObj]))]; exact h.hnd k hk }

/-- How many are open. -/
def nOpen (O : List (Option Hnd)) : Nat := (O.filter Option.isSome).length
theorem nOpen_snoc (O : List (Option Hnd)) (x : Option Hnd) : nOpen (O ++ [x]) = nOpen O + if x.isSome then 1 else 0 := by
  cases x <;> simp [nOpen]
theorem nOpen_le (O : List (Option Hnd)) : nOpen O ≤ O.length := List.length_filter_le _ _

set_option maxHeartbeats 400000 in
theorem many_same (sb : Nat) (g : G) (w : World) (m : Mem) (hm : Has w m) (hr : SRep m sb g) :
    Calls Tryd.prog 23 #[.pointer (some ⟨sb, 0, none⟩)] w fun e w' => e = .returned (.int .i64 (nOpen g.O)) ∧ w' = w := by
  obtain ⟨oa, oc, ho, hoc⟩ := hr.opens.lenV
  have c2 : w.cell? ⟨sb, 2, none⟩ = some (.slice oa g.O.length oc) := by rw [hm.cell hr.store, ← ho]; rfl
  have hlen := hr.olen
  have H := Lib.hid hm
  have HR := Lib.hid hr
  have HO := Lib.hid ho
  clear hm hr ho
  go_enter Tryd.func23, Tryd.ntmps23
  go_wp2_with fail
  go_loop [3, 11] (fun t i => ∃ k : Nat, k ≤ g.O.length ∧ i = .int .i64 k ∧ t = .int .i64 (nOpen (g.O.take k))) (fun _ i => g.O.length - (intOf i).toNat)
  case atStart => exact ⟨0, Nat.zero_le _, rfl, rfl⟩
  case round =>
    obtain ⟨k, hk, rfl, rfl⟩ := hrel
    have hcnt : nOpen (g.O.take k) ≤ k := Nat.le_trans (nOpen_le _) (List.length_take_le _ _)
    by_cases hlt : k < g.O.length
    · obtain ⟨ob, hoa⟩ : ∃ ob, oa = some ⟨ob, 0, none⟩ := by
        have h1 := HR.out.opens
        rw [HO.out] at h1
        rcases h1.2 with ⟨_, h⟩ | ⟨gg, cap, cur, fz, h, _⟩
        · omega
        · simp only [Value.slice.injEq] at h; exact ⟨gg, h.1⟩
      subst hoa
      have e0 : w.cell? ⟨ob, k, none⟩ = some (hndV g.O[k]) := by
        have h1 := HR.out.opens
        rw [HO.out] at h1
        rw [h1.cell H.out (by omega)]
        simp [hlt]
      have SN := Lib.hid (nOpen_snoc (g.O.take k) g.O[k])
      have TS : Hid (g.O.take (k + 1) = g.O.take k ++ [g.O[k]]) := by show _ = _; rw [List.take_succ_eq_append_getElem hlt]
      cases hx : g.O[k] with
      | none =>
        rw [hx] at e0
        have HX := Lib.hid hx
        clear hx
        simp only [hndV] at e0
        go_wp2_with fail
        go_round
        case rel => exact ⟨k + 1, by omega, by go_num, by rw [TS.out, SN.out, HX.out]; rfl⟩
        case measure => simp [intOf]; omega
      | some h =>
        rw [hx] at e0
        have HX := Lib.hid hx
        clear hx
        simp only [hndV] at e0
        go_wp2_with fail
        go_round
        case rel => exact ⟨k + 1, by omega, by go_num, by rw [TS.out, SN.out, HX.out]; go_num⟩
        case measure => simp [intOf]; omega
    · have TL := Lib.hid (show g.O.take k = g.O from List.take_of_length_le (by omega))
      go_wp2_with fail
      go_ret
      exact ⟨by rw [TL.out]; rfl, rfl⟩

theorem many_any (sb : Nat) (g : G) (w : World) (m : Mem) (hm : Has w m) (hr : SRep m sb g) :
    Calls Tryd.prog 23 #[.pointer (some ⟨sb, 0, none⟩)] w (Post w m fun v _ => v = .int .i64 (nOpen g.O)) :=
  (many_same sb g w m hm hr).mono fun _ _ ⟨he, hw⟩ => by subst he; subst hw; exact Post.mk m (Mem.le_refl _) hm (Env.refl _) rfl
end Go.Proofs.YtcdmdkgiabfbeaaDoor

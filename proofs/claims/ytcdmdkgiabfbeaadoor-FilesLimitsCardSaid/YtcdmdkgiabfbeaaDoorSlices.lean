/-
  Slices that own their block, in memory that is known: append, copy, a slice of bytes and its string; no program in sight.
-/
import Derived.Test.YtcdmdkgiabfbeaaDoorMem
import Derived.Maps.OwnRows
namespace Go.Proofs.YtcdmdkgiabfbeaaDoor
open Go.RowKit

def byteV (b : UInt8) : Value := .int .u8 (b.toNat : Int)

/-- No cell of the block is shared with a string. -/
def Thaw (c : Array Value) (fz : Nat × Nat) : Prop := ∀ o, o < c.size → (decide (fz.1 ≤ o) && decide (o < fz.2)) = false
theorem Thaw.zero (c : Array Value) : Thaw c (0, 0) := fun o _ => by simp
theorem Thaw.size {c d : Array Value} {fz : Nat × Nat} (h : Thaw c fz) (k : d.size = c.size) : Thaw d fz := fun o ho => h o (by omega)

/-- v is nil, or the whole of a block from its head on: n elements of k cells each, the cells xs; behind them there is room as the capacity says. -/
def Row (m : Mem) (v : Value) (e : TypeId) (k n : Nat) (xs : List Value) : Prop :=
  xs.length = n * k ∧ ((v = .slice none 0 0 ∧ n = 0) ∨
    ∃ g cap cur fz, v = .slice (some ⟨g, 0, none⟩) n cap ∧ m g = some (.cells cur e fz) ∧ Thaw cur fz ∧ n ≤ cap ∧ cap ≤ maxLen ∧ cap * k ≤ cur.size ∧ cur.toList.take (n * k) = xs)

theorem Row.le {m m' : Mem} {v : Value} {e : TypeId} {k n : Nat} {xs : List Value} (h : Row m v e k n xs) (l : m.le m') : Row m' v e k n xs := by
  obtain ⟨h1, h2 | ⟨g, cap, cur, fz, hv, hg, r⟩⟩ := h
  · exact ⟨h1, .inl h2⟩
  · exact ⟨h1, .inr ⟨g, cap, cur, fz, hv, l _ _ hg, r⟩⟩
theorem Row.nil (m : Mem) (e : TypeId) (k : Nat) : Row m (.slice none 0 0) e k 0 [] := ⟨by simp, .inl ⟨rfl, rfl⟩⟩

/-- What a row's block is, kept where another block is written. -/
theorem Row.set_other {m : Mem} {v : Value} {e : TypeId} {k n : Nat} {xs : List Value} (h : Row m v e k n xs) {b : Nat} (o : Obj) (hb : v.ownBlock ≠ some b) : Row (m.set b o) v e k n xs := by
  obtain ⟨h1, h2 | ⟨g, cap, cur, fz, hv, hg, r⟩⟩ := h
  · exact ⟨h1, .inl h2⟩
  · refine ⟨h1, .inr ⟨g, cap, cur, fz, hv, ?_, r⟩⟩
    rw [Mem.set_ne _ _ (by intro e; subst e; subst hv; exact hb rfl)]; exact hg

theorem Row.own {m : Mem} {v : Value} {e : TypeId} {k n : Nat} {xs : List Value} (h : Row m v e k n xs) {b : Nat} (hb : v.ownBlock = some b) :
    ∃ cap cur fz, v = .slice (some ⟨b, 0, none⟩) n cap ∧ m b = some (.cells cur e fz) ∧ Thaw cur fz ∧ n ≤ cap ∧ cap ≤ maxLen ∧ cap * k ≤ cur.size ∧ cur.toList.take (n * k) = xs := by
  obtain ⟨h1, ⟨rfl, _⟩ | ⟨g, cap, cur, fz, rfl, hg, r⟩⟩ := h
  · cases hb
  · simp only [Value.ownBlock, Option.some.injEq] at hb
    subst hb
    exact ⟨cap, cur, fz, rfl, hg, r⟩

theorem Row.lenV {m : Mem} {v : Value} {e : TypeId} {k n : Nat} {xs : List Value} (h : Row m v e k n xs) : ∃ a cap, v = .slice a n cap ∧ n ≤ cap := by
  obtain ⟨_, ⟨rfl, rfl⟩ | ⟨g, cap, cur, fz, rfl, _, _, hn, _⟩⟩ := h
  · exact ⟨_, _, rfl, Nat.le_refl _⟩
  · exact ⟨_, _, rfl, hn⟩

/-- A cell of a row. -/
theorem Row.cell {m : Mem} {e : TypeId} {k n g cap : Nat} {xs : List Value} {w : World} (hm : Has w m) (h : Row m (.slice (some ⟨g, 0, none⟩) n cap) e k n xs) {j : Nat} (hj : j < n * k) :
    w.cell? ⟨g, j, none⟩ = xs[j]? := by
  obtain ⟨cap', cur, fz, hv, hg, _, _, _, _, ht⟩ := h.own (b := g) rfl
  rw [hm.cell hg, ← ht, List.getElem?_take, if_pos hj]
  simp

def splice : Array Value → Nat → List Value → Array Value
  | c, _, [] => c
  | c, o, v :: r => splice (c.setIfInBounds o v) (o + 1) r

theorem splice_size : ∀ (vs : List Value) (c : Array Value) (o : Nat), (splice c o vs).size = c.size
  | [], _, _ => rfl
  | v :: r, c, o => by rw [splice, splice_size r]; simp

theorem splice_get : ∀ (vs : List Value) (c : Array Value) (o j : Nat), o + vs.length ≤ c.size →
    (splice c o vs)[j]? = if o ≤ j ∧ j < o + vs.length then vs[j - o]? else c[j]?
  | [], c, o, j, _ => by simp [splice]; intro h1 h2; omega
  | v :: r, c, o, j, h => by
    simp only [List.length_cons] at h
    rw [splice, splice_get r _ _ _ (by simp; omega)]
    by_cases h1 : o + 1 ≤ j ∧ j < o + 1 + r.length
    · rw [if_pos h1, if_pos (by simp; omega), show j - o = (j - (o + 1)) + 1 from by omega]; rfl
    · rw [if_neg h1]
      by_cases h2 : j = o
      · subst h2
        rw [if_pos (by simp), Array.getElem?_setIfInBounds]
        simp; omega
      · rw [if_neg (by simp; omega), Array.getElem?_setIfInBounds, if_neg (by omega)]

theorem splice_take (vs : List Value) (c : Array Value) (o n : Nat) (h : o + vs.length ≤ c.size) (hn : n = o + vs.length) :
    (splice c o vs).toList.take n = c.toList.take o ++ vs := by
  subst hn
  apply List.ext_getElem?
  intro j
  rw [List.getElem?_take]
  have hs : (splice c o vs).toList[j]? = (splice c o vs)[j]? := by simp
  by_cases hj : j < o + vs.length
  · rw [if_pos hj, hs, splice_get _ _ _ _ h]
    by_cases h2 : o ≤ j
    · rw [if_pos ⟨h2, hj⟩, List.getElem?_append_right (by simp; omega)]
      congr 1; simp; omega
    · rw [if_neg (by omega), List.getElem?_append_left (by simp; omega), List.getElem?_take, if_pos (by omega)]; simp
  · rw [if_neg hj, List.getElem?_eq_none]; simp; omega

theorem Has.stores : ∀ (vs : List Value) (c : Array Value) (o : Nat) (w : World) (m : Mem), Has w m → ∀ {b : Nat} {e : TypeId} {fz : Nat × Nat}, m b = some (.cells c e fz) →
    Has (w.setCells b o vs) (m.set b (.cells (splice c o vs) e fz))
  | [], c, o, w, m, h, b, e, fz, k => by
    rw [splice, World.setCells, Mem.set_eq _ k]; exact h
  | v :: r, c, o, w, m, h, b, e, fz, k => by
    have h1 := h.store (off := o) k v
    have h2 := Has.stores r _ (o + 1) _ _ h1 (Mem.set_same _ _ _)
    rw [Mem.set_set] at h2
    exact h2

theorem Env.stores {a : World} : ∀ (vs : List Value) (b o : Nat) (w : World), Env a w → Env a (w.setCells b o vs)
  | [], _, _, _, h => h
  | _ :: r, b, o, _, h => Env.stores r b (o + 1) _ (h.setCell _ _)

/-- The cells from an address on are known. -/
def Cells (m : Mem) (b o : Nat) (xs : List Value) : Prop := ∃ c e fz, m b = some (.cells c e fz) ∧ ∀ j u, xs[j]? = some u → c[o + j]? = some u

theorem Cells.le {m m' : Mem} {b o : Nat} {xs : List Value} (h : Cells m b o xs) (l : m.le m') : Cells m' b o xs := by
  obtain ⟨c, e, fz, h1, h2⟩ := h
  exact ⟨c, e, fz, l _ _ h1, h2⟩
theorem Cells.at {m : Mem} {b o : Nat} {xs : List Value} (h : Cells m b o xs) {w : World} (hm : Has w m) : ∀ j u, xs[j]? = some u → w.cell? ((⟨b, o, none⟩ : Addr).add j) = some u := by
  obtain ⟨c, e, fz, h1, h2⟩ := h
  intro j u hj
  have hadd : (⟨b, o, none⟩ : Addr).add j = ⟨b, o + j, none⟩ := by unfold Addr.add; split <;> simp_all
  rw [hadd, hm.cell h1]; exact h2 j u hj
theorem Cells.whole {m : Mem} {b : Nat} {xs : List Value} {c : Array Value} {e : TypeId} {fz : Nat × Nat} (h : m b = some (.cells c e fz)) (hx : c.toList = xs) : Cells m b 0 xs :=
  ⟨c, e, fz, h, fun j u hj => by subst hx; simpa using hj⟩
theorem Row.cells {m : Mem} {e : TypeId} {k n g cap : Nat} {xs : List Value} (h : Row m (.slice (some ⟨g, 0, none⟩) n cap) e k n xs) : Cells m g 0 xs := by
  obtain ⟨cap', cur, fz, hv, hg, _, _, _, _, ht⟩ := h.own (b := g) rfl
  refine ⟨cur, e, fz, hg, fun j u hj => ?_⟩
  rw [← ht, List.getElem?_take] at hj
  split at hj
  · simpa using hj
  · cases hj

/-- How what is known changes when a slice's own row is appended to. -/
def Grows (m m' : Mem) (v v' : Value) : Prop :=
  (m' = m ∧ v'.ownBlock = v.ownBlock) ∨ ∃ g o, v'.ownBlock = some g ∧ m' = m.set g o ∧ (v.ownBlock = some g ∨ m g = none)

theorem Grows.keep {m m' : Mem} {v v' : Value} (h : Grows m m' v v') {b : Nat} {o : Obj} (k : m b = some o) (hb : v.ownBlock ≠ some b) : m' b = some o := by
  rcases h with ⟨rfl, _⟩ | ⟨g, p, _, rfl, h⟩
  · exact k
  · rw [Mem.set_ne]
    · exact k
    · intro e; subst e
      rcases h with h | h
      · exact hb h
      · rw [h] at k; cases k

section
variable {P : Program} {w : World} {m : Mem}

/-- append, whatever the room. -/
theorem run_append_row (t ty e : TypeId) (i : TypeInfo) (z : Value) (k bytes : Nat) (ht : P.underlying t = some (.slice e)) (hi : P.info? e = some i) (hz : i.zero = some z)
    (hsize : i.size = k) (hby : i.bytes = bytes) (hzs : z.cells.size = k) (hk : 0 < k) (hm : Has w m)
    (v : Value) (n : Nat) (xs : List Value) (hrow : Row m v e k n xs)
    (b o j c : Nat) (news : List Value) (hl : news.length = j * k) (hnews : Cells m b o news) (h1 : ∀ u ∈ news, u.oneCell' = true) (hj : 0 < j)
    (hbytes : (n + j) * bytes ≤ 140737488355328) (hmax : n + j ≤ 140737488355328) :
    ∃ v' w' m', (Builtin.append_ #[t, t] ty #[v, .slice (some ⟨b, o, none⟩) j c]).run P w = .ok v' w' ∧ Env w w' ∧ Has w' m' ∧ Row m' v' e k (n + j) (xs ++ news) ∧ Grows m m' v v' := by
  subst hsize
  subst hby
  have hnw := hnews.at hm
  have hlen : (xs ++ news).length = (n + j) * i.size := by rw [List.length_append, hrow.1, hl, Nat.add_mul]
  have hML : maxLen = 9223372036854775807 := rfl
  have grown : ∀ (old : Nat) (xs' : List Value), xs' = xs →
      Env w (w.drew.alloc (.cells (xs'.toArray ++ news.toArray ++ Builtin.zeroCells z.cells (grownCap w (n + j) old e - (n + j))) e)) ∧
      Has (w.drew.alloc (.cells (xs'.toArray ++ news.toArray ++ Builtin.zeroCells z.cells (grownCap w (n + j) old e - (n + j))) e))
        (m.set w.heap.size (.cells (xs'.toArray ++ news.toArray ++ Builtin.zeroCells z.cells (grownCap w (n + j) old e - (n + j))) e)) ∧
      Row (m.set w.heap.size (.cells (xs'.toArray ++ news.toArray ++ Builtin.zeroCells z.cells (grownCap w (n + j) old e - (n + j))) e))
        (.slice (some ⟨w.heap.size, 0, none⟩) (n + j) (grownCap w (n + j) old e)) e i.size (n + j) (xs ++ news) ∧ m w.heap.size = none := by
    intro old xs' hx
    subst hx
    have hge := grownCap_ge w (n + j) old e
    have hcm : grownCap w (n + j) old e ≤ maxLen := grownCap_le_maxLen w (n + j) old e (by omega)
    refine ⟨(Env.refl w).drew.alloc _, hm.drew.alloc _, ⟨hlen, .inr ⟨w.heap.size, _, _, _, rfl, Mem.set_same _ _ _, Thaw.zero _, hge, hcm, ?_, ?_⟩⟩, hm.fresh (Nat.le_refl _)⟩
    · simp only [Array.size_append, List.size_toArray, size_zeroCells, hzs, hrow.1, hl, ← Nat.add_mul]
      exact Nat.mul_le_mul_right _ (by omega)
    · simp only [Array.toList_append, List.append_assoc]
      rw [← List.append_assoc, ← hlen]
      exact List.take_left
  obtain ⟨hxl, ⟨rfl, rfl⟩ | ⟨g, cap, cur, fz, rfl, hg, hth, hnc, hcm, hcs, htk⟩⟩ := hrow
  · have hx : xs = [] := List.eq_nil_of_length_eq_zero (by simpa using hxl)
    have hr := run_append_nil (P := P) w t ty e i z ht hi hz ⟨b, o, none⟩ j c news hl hnw hj (by omega) (by simp only [Nat.zero_add] at hbytes; omega)
    obtain ⟨g1, g2, g3, g4⟩ := grown 0 xs rfl
    subst hx
    simp only [Nat.zero_add, List.nil_append, Array.empty_append] at g1 g2 g3 hr ⊢
    exact ⟨_, _, _, hr, g1, g2, g3, .inr ⟨_, _, rfl, rfl, .inr g4⟩⟩
  · by_cases hroom : n + j ≤ cap
    · have hfit : n * i.size + news.length ≤ cur.size := by
        rw [hl, ← Nat.add_mul]; exact Nat.le_trans (Nat.mul_le_mul_right _ hroom) hcs
      have hcell : ∀ q, q < news.length → (w.cell? ⟨g, 0 + n * i.size + q, none⟩).isSome = true := fun q hq => by
        rw [hm.cell hg]; simp; omega
      have hfro : ∀ q, q < news.length → w.frozen? ⟨g, 0 + n * i.size + q, none⟩ = false := fun q hq => by
        have := hth (0 + n * i.size + q) (by omega)
        simp only [World.frozen?, hm _ _ hg]; exact this
      have hr := run_append_room_cells (P := P) w t ty e i ht hi g 0 n cap ⟨b, o, none⟩ j c news hl hnw h1 hroom hcell hfro
      refine ⟨_, _, _, hr, Env.stores _ _ _ _ (Env.refl w), Has.stores news cur _ _ _ hm hg, ⟨hlen, .inr ⟨g, cap, _, fz, rfl, Mem.set_same _ _ _, hth.size (splice_size _ _ _), hroom, hcm, by rw [splice_size]; exact hcs, ?_⟩⟩, .inr ⟨g, _, rfl, rfl, .inl rfl⟩⟩
      rw [splice_take _ _ _ _ (by omega) (by rw [hl, Nat.add_mul]; omega), Nat.zero_add, htk]
    · have holds : ∀ q u, xs[q]? = some u → w.cell? ((⟨g, 0, none⟩ : Addr).add q) = some u :=
        (Row.cells (cap := cap) (n := n) ⟨hxl, .inr ⟨g, cap, cur, fz, rfl, hg, hth, hnc, hcm, hcs, htk⟩⟩).at hm
      have hr := run_append_grow (P := P) w t ty e i z ht hi hz ⟨g, 0, none⟩ n cap xs hxl holds ⟨b, o, none⟩ j c news hl hnw (by omega) (by omega) (growslice_fits (by omega) hbytes)
      obtain ⟨g1, g2, g3, g4⟩ := grown cap xs rfl
      exact ⟨_, _, _, hr, g1, g2, g3, .inr ⟨_, _, rfl, rfl, .inr g4⟩⟩

theorem run_storeZeros {e : TypeId} {g o : Nat} {cur : Array Value} {fz : Nat × Nat} (hm : Has w m) (hg : m g = some (.cells cur e fz)) (hth : Thaw cur fz) (vs : List Value) (hfit : o + vs.length ≤ cur.size) (h1 : ∀ u ∈ vs, u.oneCell' = true) :
    (storeCells ((⟨g, 0, none⟩ : Addr).add o) vs).run P w = .ok () (w.setCells g o vs) := by
  have hadd : (⟨g, 0, none⟩ : Addr).add o = ⟨g, o, none⟩ := by unfold Addr.add; split <;> simp_all
  have hcell : ∀ q, q < vs.length → (w.cell? ⟨g, o + 0 + q, none⟩).isSome = true := fun q hq => by
    rw [hm.cell hg]; simp; omega
  have hfro : ∀ q, q < vs.length → w.frozen? ⟨g, o + 0 + q, none⟩ = false := fun q hq => by
    have := hth (o + 0 + q) (by omega)
    simp only [World.frozen?, hm _ _ hg]; exact this
  have := run_storeCells_cells (P := P) g o vs 0 w hcell hfro h1
  rw [hadd, this]
  simp

theorem zeroCells_one (z : Value) (n : Nat) : (Builtin.zeroCells #[z] n).toList = List.replicate n z := by
  apply List.ext_getElem?
  intro j
  simp only [Builtin.zeroCells, List.size_toArray, List.length_singleton, Nat.mul_one, Array.toList_map, Array.toList_range, List.getElem?_map, List.getElem?_replicate]
  by_cases h : j < n
  · simp [h, Nat.mod_one]
  · simp [h]

/-- append of so many noughts: 'append(b, make([]byte, j)...)'. -/
theorem run_append_zeros (t u ty e : TypeId) (i : TypeInfo) (z : Value) (ht : P.underlying t = some (.slice e)) (hu : P.underlying u = some (.int .i64)) (hi : P.info? e = some i) (hz : i.zero = some z)
    (hsize : i.size = 1) (hby : i.bytes = 1) (hzc : z.cells = #[z]) (hz1 : z.oneCell' = true) (hm : Has w m)
    (v : Value) (n : Nat) (xs : List Value) (hrow : Row m v e 1 n xs) (j : Nat) (hj : 0 < j) (hmax : n + j ≤ 1000000000) :
    ∃ v' w' m', (Builtin.append_ #[t, u] ty #[v, .int .i64 (j : Int)]).run P w = .ok v' w' ∧ Env w w' ∧ Has w' m' ∧ Row m' v' e 1 (n + j) (xs ++ List.replicate j z) ∧ Grows m m' v v' := by
  have hw : IntKind.i64.wrap (j : Int) = j := by simp [IntKind.wrap, IntKind.signed, IntKind.bits]; omega
  have hML : maxLen = 9223372036854775807 := rfl
  have h0 : ¬ ((j : Int) < 0) := by omega
  have hlen : (xs ++ List.replicate j z).length = (n + j) * 1 := by rw [List.length_append, hrow.1, List.length_replicate, Nat.add_mul]; omega
  have grown : ∀ (old : Nat) (xs' : List Value), xs' = xs →
      Has (w.drew.alloc (.cells (xs'.toArray ++ Builtin.zeroCells #[z] j ++ Builtin.zeroCells #[z] (grownCap w (n + j) old e - (n + j))) e))
        (m.set w.heap.size (.cells (xs'.toArray ++ Builtin.zeroCells #[z] j ++ Builtin.zeroCells #[z] (grownCap w (n + j) old e - (n + j))) e)) ∧
      Row (m.set w.heap.size (.cells (xs'.toArray ++ Builtin.zeroCells #[z] j ++ Builtin.zeroCells #[z] (grownCap w (n + j) old e - (n + j))) e))
        (.slice (some ⟨w.heap.size, 0, none⟩) (n + j) (grownCap w (n + j) old e)) e 1 (n + j) (xs ++ List.replicate j z) ∧ m w.heap.size = none := by
    intro old xs' hx
    subst hx
    have hge := grownCap_ge w (n + j) old e
    have hcm : grownCap w (n + j) old e ≤ maxLen := grownCap_le_maxLen w (n + j) old e (by omega)
    refine ⟨hm.drew.alloc _, ⟨hlen, .inr ⟨w.heap.size, _, _, _, rfl, Mem.set_same _ _ _, Thaw.zero _, hge, hcm, ?_, ?_⟩⟩, hm.fresh (Nat.le_refl _)⟩
    · have := hrow.1
      simp only [Array.size_append, List.size_toArray, size_zeroCells, List.length_singleton]
      omega
    · simp only [Array.toList_append, zeroCells_one]
      rw [← hlen]
      exact List.take_left
  obtain ⟨hxl, ⟨rfl, rfl⟩ | ⟨g, cap, cur, fz, rfl, hg, hth, hnc, hcm, hcs, htk⟩⟩ := hrow
  · have hx : xs = [] := List.eq_nil_of_length_eq_zero (by simpa using hxl)
    subst hx
    obtain ⟨g2, g3, g4⟩ := grown 0 [] rfl
    simp only [Nat.zero_add, List.nil_append] at g2 g3 ⊢
    refine ⟨_, _, _, ?_, (Env.refl w).drew.alloc _, g2, g3, .inr ⟨_, _, rfl, rfl, .inr g4⟩⟩
    have hj0 : j ≠ 0 := by omega
    have b1 : ¬ (281474976710656 < (j : Int)) := by omega
    have b2 : ¬ (9223372036854775807 < (j : Int)) := by omega
    have b3 : ¬ (281474976710656 < Builtin.nextslicecap j 0) := by rw [nextslicecap_zero hj]; omega
    simp [Builtin.append_, run_underlying ht, run_underlying hu, sizeOf, typeInfo, zeroValue, hi, hz, hsize, hby, asInt, asIntOf, hw, h0, hj0, Question.forced, Builtin.firstCells, newRow, grownCap, hzc, b1, b2, b3]
  · by_cases hroom : n + j ≤ cap
    · have hfit : n + (List.replicate j z).length ≤ cur.size := by simp; omega
      have hst := run_storeZeros (P := P) (o := n) hm hg hth (List.replicate j z) hfit (fun u hu => by rw [(List.mem_replicate.1 hu).2]; exact hz1)
      refine ⟨_, _, _, ?_, Env.stores (List.replicate j z) g n _ (Env.refl w), Has.stores (List.replicate j z) cur n _ _ hm hg, ⟨hlen, .inr ⟨g, cap, _, fz, rfl, Mem.set_same _ _ _, hth.size (splice_size _ _ _), hroom, hcm, by rw [splice_size]; exact hcs, ?_⟩⟩, .inr ⟨g, _, rfl, rfl, .inl rfl⟩⟩
      · have hj0 : j ≠ 0 := by omega
        have b1 : ¬ (281474976710656 < (j : Int)) := by omega
        have b2 : ¬ (9223372036854775807 < ((n : Int) + (j : Int))) := by omega
        simp [Builtin.append_, run_underlying ht, run_underlying hu, sizeOf, typeInfo, zeroValue, hi, hz, hsize, hby, asInt, asIntOf, hw, h0, hj0, hroom, hzc, b1, zeroCells_one, hst]
      · rw [splice_take _ _ _ _ hfit (by simp), show cur.toList.take n = xs from by rw [← htk, Nat.mul_one]]
    · have holds : ∀ q u, xs[q]? = some u → w.drew.cell? ((⟨g, 0, none⟩ : Addr).add q) = some u :=
        (Row.cells (cap := cap) (n := n) ⟨hxl, .inr ⟨g, cap, cur, fz, rfl, hg, hth, hnc, hcm, hcs, htk⟩⟩).at hm.drew
      have hfo := run_firstCells_some (P := P) w.drew 1 n ⟨g, 0, none⟩ n cap xs hxl holds
      obtain ⟨g2, g3, g4⟩ := grown cap xs rfl
      refine ⟨_, _, _, ?_, (Env.refl w).drew.alloc _, g2, g3, .inr ⟨_, _, rfl, rfl, .inr g4⟩⟩
      have hj0 : j ≠ 0 := by omega
      have b1 : ¬ (281474976710656 < (j : Int)) := by omega
      have b2 : ¬ (9223372036854775807 < ((n : Int) + (j : Int))) := by omega
      have b3 : ¬ (281474976710656 < Builtin.nextslicecap (n + j) cap) := by
        have := nextslicecap_le (need := n + j) (old := cap) (by omega); omega
      simp [Builtin.append_, run_underlying ht, run_underlying hu, sizeOf, typeInfo, zeroValue, hi, hz, hsize, hby, asInt, asIntOf, hw, h0, hj0, Question.forced, newRow, grownCap, hzc, hroom, b1, b2, b3, hfo]
end
end Go.Proofs.YtcdmdkgiabfbeaaDoor

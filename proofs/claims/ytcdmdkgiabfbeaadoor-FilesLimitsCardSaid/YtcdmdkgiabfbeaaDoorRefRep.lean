/-
  The document's store: what it takes up; a file more; make.
-/
import Derived.Test.YtcdmdkgiabfbeaaDoorRef
import Derived.Laws.MakeOwn
namespace Go.Proofs.YtcdmdkgiabfbeaaDoor
open Go.RowKit

/-- What the document's store takes up. -/
def RFP (rb : Nat) (r : RG) (b : Nat) : Prop := b = rb ∨ r.fv.ownBlock = some b ∨ r.ov.ownBlock = some b ∨ r.xv.ownBlock = some b ∨ ∃ f ∈ r.F, f.bv.ownBlock = some b

theorem RRep.keep {m m' : Mem} {rb : Nat} {r : RG} (h : RRep m rb r) (k : ∀ b o, RFP rb r b → m b = some o → m' b = some o) : RRep m' rb r :=
  { h with
    store := k _ _ (.inl rfl) h.store
    files := h.files.keep fun b o hb hm => k b o (.inr (.inl hb)) hm
    bytes := fun f hf => (h.bytes f hf).keep fun b o hb hm => k b o (.inr (.inr (.inr (.inr ⟨f, hf, hb⟩)))) hm
    opens := h.opens.keep fun b o hb hm => k b o (.inr (.inr (.inl hb))) hm
    fails := Row.keep h.fails fun b o hb hm => k b o (.inr (.inr (.inr (.inl hb)))) hm }

theorem RRep.known {m : Mem} {rb : Nat} {r : RG} (h : RRep m rb r) {b : Nat} (hb : RFP rb r b) : ∃ o, m b = some o := by
  rcases hb with rfl | hb | hb | hb | ⟨f, hf, hb⟩
  · exact ⟨_, h.store⟩
  · obtain ⟨_, _, x⟩ := h.files.ty hb; exact ⟨_, x⟩
  · obtain ⟨_, _, x⟩ := h.opens.ty hb; exact ⟨_, x⟩
  · obtain ⟨_, _, x⟩ := Row.ty h.fails hb; exact ⟨_, x⟩
  · obtain ⟨_, _, x⟩ := (h.bytes f hf).ty hb; exact ⟨_, x⟩
theorem RRep.unknown {m : Mem} {rb : Nat} {r : RG} (h : RRep m rb r) {b : Nat} (hb : m b = none) : ¬ RFP rb r b := fun hp => by
  obtain ⟨o, ho⟩ := h.known hp
  rw [hb] at ho; cases ho

/-- A block of another type is none of a row's. -/
theorem Row.notOwn {m : Mem} {v : Value} {e : TypeId} {k n : Nat} {xs : List Value} (h : Row m v e k n xs) {b : Nat} {c : Array Value} {e' : TypeId} {fz : Nat × Nat} (hb : m b = some (.cells c e' fz)) (he : e' ≠ e) : v.ownBlock ≠ some b := fun hv => by
  obtain ⟨cur, fz', hc⟩ := h.ty hv
  rw [hb] at hc
  simp only [Option.some.injEq, Obj.cells.injEq] at hc
  exact he hc.2.1

/-- A file more. -/
theorem RRep.push {m m2 : Mem} {rb : Nat} {r : RG} (h : RRep m rb r) (f : RF) (v' : Value) (gr : Grows m m2 r.fv v') (row : Row m2 v' 87 2 (r.F.length + 1) (r.F.flatMap rfCells ++ rfCells f))
    (hb : Row m f.bv 5 1 f.bs.length (f.bs.map byteV)) (hsep : ∀ d ∈ r.F, ∀ b, d.bv.ownBlock = some b → f.bv.ownBlock ≠ some b) (hne : f.name ≠ ⟨#[]⟩) (hnm : isNameB f.name = true) (hnew : ∀ d ∈ r.F, d.name ≠ f.name)
    (hbl : f.bs.length ≤ 262144) (hl : r.F.length + 1 ≤ 101 + r.n) :
    RRep (m2.set rb (rstoreObj { r with fv := v', F := r.F ++ [f] })) rb { r with fv := v', F := r.F ++ [f] } := by
  have hst := h.store
  have k : ∀ {b : Nat} {o : Obj}, m b = some o → r.fv.ownBlock ≠ some b → b ≠ rb → (m2.set rb (rstoreObj { r with fv := v', F := r.F ++ [f] })) b = some o := fun h1 h2 h3 => by
    rw [Mem.set_ne _ _ h3]; exact gr.keep h1 h2
  have kt : ∀ {v : Value} {e : TypeId} {q n : Nat} {xs : List Value}, Row m v e q n xs → e ≠ 87 → e ≠ 91 → Row (m2.set rb (rstoreObj { r with fv := v', F := r.F ++ [f] })) v e q n xs := fun hr he1 he2 =>
    hr.keep fun b o hb hm => by
      obtain ⟨cur, fz, hc⟩ := hr.ty hb
      refine k hm (h.files.notOwn (e' := _) hc he1) ?_
      rintro rfl
      rw [hst] at hc
      simp only [rstoreObj, Option.some.injEq, Obj.cells.injEq] at hc
      exact he2 hc.2.1.symm
  have hv' : v'.ownBlock ≠ some rb := fun hv => by
    rcases gr with ⟨_, h3⟩ | ⟨gb, o, h3, _, h4⟩
    · rw [h3] at hv
      exact h.files.notOwn (e' := 91) hst (by decide) hv
    · rw [hv] at h3
      obtain rfl := Option.some.inj h3
      rcases h4 with h4 | h4
      · exact h.files.notOwn (e' := 91) hst (by decide) h4
      · rw [hst] at h4; cases h4
  exact { h with
    store := Mem.set_same _ _ _
    files := by
      show Row _ v' _ 2 (r.F ++ [f]).length ((r.F ++ [f]).flatMap rfCells)
      rw [List.length_append, List.flatMap_append]
      have := row.set_other (rstoreObj { r with fv := v', F := r.F ++ [f] }) hv'
      simpa using this
    bytes := fun d hd => by
      rcases List.mem_append.1 hd with hd | hd
      · exact kt (h.bytes d hd) (by decide) (by decide)
      · obtain rfl := List.mem_singleton.1 hd
        exact kt hb (by decide) (by decide)
    sep := List.pairwise_append.2 ⟨h.sep, by simp, fun d hd e he b h1 => by obtain rfl := List.mem_singleton.1 he; exact hsep d hd b h1⟩
    opens := kt h.opens (by decide) (by decide)
    fails := kt h.fails (by decide) (by decide)
    head := by
      obtain ⟨d, F', h1, h2⟩ := h.head
      exact ⟨d, F' ++ [f], by show r.F ++ [f] = _; rw [h1]; rfl, h2⟩
    flen := by show (r.F ++ [f]).length ≤ _; rw [List.length_append]; simpa using hl
    names := by
      show ((r.F ++ [f]).filter _).Pairwise _
      rw [List.filter_append]
      refine List.pairwise_append.2 ⟨h.names, ?_, fun d hd e he => ?_⟩
      · rw [List.filter_cons]; split <;> simp
      · have he' := (List.mem_filter.1 he).1
        obtain rfl := List.mem_singleton.1 he'
        exact hnew d (List.mem_filter.1 hd).1
    named := fun d hd hn => by
      rcases List.mem_append.1 hd with hd | hd
      · exact h.named d hd hn
      · obtain rfl := List.mem_singleton.1 hd; exact hnm
    bsz := fun d hd => by
      rcases List.mem_append.1 hd with hd | hd
      · exact h.bsz d hd
      · obtain rfl := List.mem_singleton.1 hd; exact hbl
    ofile := fun o ho => by
      rcases h.ofile o ho with h1 | ⟨d, h1, h2⟩
      · exact .inl h1
      · exact .inr ⟨d, by show (r.F ++ [f])[o.file]? = _; rw [List.getElem?_append_left ((List.getElem?_eq_some_iff.1 h1).1)]; exact h1, h2⟩ }

/-- The store's own cells. -/
theorem RRep.restore {m : Mem} {rb : Nat} {r : RG} (h : RRep m rb r) (xv : Value) (X : List Fail3) (n : Nat) (go : Fail3) (hf : Fails m xv X) (hx : X.length ≤ 1000) (hn : r.n ≤ n) :
    RRep (m.set rb (rstoreObj { r with xv := xv, X := X, n := n, go := go })) rb { r with xv := xv, X := X, n := n, go := go } := by
  have kt : ∀ {v : Value} {e : TypeId} {q k : Nat} {xs : List Value}, Row m v e q k xs → e ≠ 91 → Row (m.set rb (rstoreObj { r with xv := xv, X := X, n := n, go := go })) v e q k xs := fun hr he =>
    hr.set_other _ (hr.notOwn (e' := 91) h.store (Ne.symm he))
  exact { h with
    store := Mem.set_same _ _ _
    files := kt h.files (by decide)
    bytes := fun f hf => kt (h.bytes f hf) (by decide)
    opens := kt h.opens (by decide)
    fails := kt hf (by decide)
    xlen := hx
    flen := Nat.le_trans h.flen (Nat.add_le_add_left hn _) }

theorem RFP_push {m m2 : Mem} {rb : Nat} {r : RG} {f : RF} {v' : Value} (gr : Grows m m2 r.fv v') {b : Nat} (h : RFP rb { r with fv := v', F := r.F ++ [f] } b) : RFP rb r b ∨ m b = none ∨ f.bv.ownBlock = some b := by
  rcases h with h | h | h | h | ⟨d, hd, h⟩
  · exact .inl (.inl h)
  · rcases gr with ⟨_, h3⟩ | ⟨gb, o, h3, _, h4⟩
    · exact .inl (.inr (.inl (by rw [← h3]; exact h)))
    · rw [show v'.ownBlock = some b from h] at h3
      obtain rfl := Option.some.inj h3
      rcases h4 with h4 | h4
      · exact .inl (.inr (.inl h4))
      · exact .inr (.inl h4)
  · exact .inl (.inr (.inr (.inl h)))
  · exact .inl (.inr (.inr (.inr (.inl h))))
  · rcases List.mem_append.1 hd with hd | hd
    · exact .inl (.inr (.inr (.inr (.inr ⟨d, hd, h⟩))))
    · obtain rfl := List.mem_singleton.1 hd; exact .inr (.inr h)

theorem madeCells_list (z : List Value) (n : Nat) : (madeCells z.toArray (n * z.length)).toList = (List.replicate n z).flatten := by
  apply List.ext_getElem?
  intro j
  unfold madeCells
  simp only [Array.toList_map, Array.toList_range, List.getElem?_map]
  by_cases hj : j < n * z.length
  · have hz : 0 < z.length := Nat.pos_of_ne_zero fun h => by rw [h] at hj; simp at hj
    rw [List.getElem?_range hj]
    have hm := Nat.mod_lt j hz
    simp only [Option.map_some, List.size_toArray]
    have hfl : ∀ (n j : Nat), j < n * z.length → (List.replicate n z).flatten[j]? = z[j % z.length]? := by
      intro n
      induction n with
      | zero => intro j h; simp at h
      | succ n ih =>
        intro j h
        rw [List.replicate_succ, List.flatten_cons]
        by_cases hjz : j < z.length
        · rw [List.getElem?_append_left hjz, Nat.mod_eq_of_lt hjz]
        · rw [List.getElem?_append_right (by omega), ih _ (by rw [Nat.add_mul] at h; omega)]
          rw [← Nat.mod_eq_sub_mod (by omega)]
    rw [hfl n j hj, List.getElem?_eq_getElem hm]
    simp [hm]
  · have hl : (List.replicate n z).flatten.length = n * z.length := by simp
    rw [List.getElem?_eq_none (by simpa using hj), List.getElem?_eq_none (by omega)]
    rfl

/-- 'make([]T, n)'. -/
theorem run_make_row (t e : TypeId) (i : TypeInfo) (z : Value) (zc : List Value) (bytes : Nat) (ht : Tryd.prog.underlying t = some (.slice e)) (hi : Tryd.prog.info? e = some i) (hz : i.zero = some z)
    (hsize : i.size = zc.length) (hby : i.bytes = bytes) (hzc : z.cells = zc.toArray) (w : World) (m : Mem) (hm : Has w m) (n : Nat) (hb : bytes * n ≤ 140737488355328) (hn : n ≤ 140737488355328) :
    ∃ w' m', (Instr.makeSlice t (.int .i64 (n : Int)) (.int .i64 (n : Int))).run Tryd.prog w = .ok (.slice (some ⟨w.heap.size, 0, none⟩) n n) w' ∧ Env w w' ∧ Has w' m' ∧ m.le m' ∧
      Row m' (.slice (some ⟨w.heap.size, 0, none⟩) n n) e zc.length n (List.replicate n zc).flatten ∧ m w.heap.size = none := by
  have hbn : (i.bytes : Int) * (n : Int) ≤ 281474976710656 := by
    have h1 : ((bytes * n : Nat) : Int) ≤ 140737488355328 := by omega
    rw [Int.natCast_mul] at h1
    rw [hby]; omega
  have hr := run_make w t e i z ht hi hz .i64 .i64 n n (by omega) (Int.le_refl _) hbn (by omega)
  simp only [Int.toNat_natCast] at hr
  have hfr := hm.fresh (Nat.le_refl w.heap.size)
  have hlen : (List.replicate n zc).flatten.length = n * zc.length := by simp
  refine ⟨_, _, hr, (Env.refl w).alloc _, hm.alloc _, Mem.le_set _ _ hfr, ⟨hlen, .inr ⟨w.heap.size, n, _, _, rfl, Mem.set_same _ _ _, Thaw.zero _, Nat.le_refl _, by unfold maxLen; omega, by rw [size_madeCells, hsize]; exact Nat.le_refl _, ?_⟩⟩, hfr⟩
  rw [hzc, hsize, madeCells_list]
  exact List.take_of_length_le (Nat.le_of_eq hlen)
end Go.Proofs.YtcdmdkgiabfbeaaDoor
